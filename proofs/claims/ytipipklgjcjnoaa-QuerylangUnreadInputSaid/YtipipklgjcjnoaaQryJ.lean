/- QuerylangModulus: the law's walk. -/
import Derived.Test.YtipipklgjcjnoaaQryI
namespace Go.Proofs.Ytipipklgjcjnoaa
open Go.RowKit Go.ChangeMaps Go.MapKept
set_option linter.unusedVariables false
theorem I3ss.imp {p q : Nat → Prop} {w : World} {v : Value} {xs : List (List I3)} (h : I3ss p w v xs) (hp : ∀ g, p g → q g) : I3ss q w v xs :=
  SlR.imp h hp fun ad x _ h => by
    obtain ⟨u, h1, h2⟩ := h
    exact ⟨u, h1, I3s.imp h2 hp⟩
theorem I3ss.old {p : Nat → Prop} {w w' : World} {v : Value} {xs : List (List I3)} (h : I3ss p w v xs) (hp : ∀ g, p g → g < w.heap.size) (hc : Chg [] w w') : I3ss (fun g => g < w'.heap.size) w' v xs :=
  (h.kept (hc.p (S := fun _ => False)) (fun _ _ h => h)).imp fun g hg => Nat.lt_of_lt_of_le (hp g hg) hc.size
theorem ints_row {w : World} {g n : Nat} {xs : List Int} (hl : xs.length = n) (hm : n ≤ 1000000) (h : w.rowIs g 3 n (fun j => .int .i64 (xs.getD j 0))) : IntsP (fun g => g < w.heap.size) w (.slice (some ⟨g, 0, none⟩) n n) xs := by
  subst hl
  refine ⟨_, _, rfl, Nat.le_refl _, by unfold maxLen; omega, fun _ => ⟨g, 0, rfl, h.lt, fun j hj => ?_⟩⟩
  have := h.cell hj
  show w.cell? ⟨g, 0 + j * 1, none⟩ = _
  rw [Nat.zero_add, Nat.mul_one, this]
  simp [hj]
theorem modN (n : Int) (m : Nat) (hm : 1 ≤ m) (hm2 : m ≤ 9223372036854775807) : ∃ r : Nat, r < m ∧ ∀ w : World, Calls Try.prog 9 #[.int .i64 n, .int .i64 (m : Int)] w fun e w' => e = .returned (.int .i64 (r : Int)) ∧ w = w' := by
  have hb := modI_bd n (m : Int) (by omega)
  obtain ⟨r, hr⟩ := Int.eq_ofNat_of_zero_le hb.1
  refine ⟨r, by omega, fun w => ?_⟩
  rw [← hr]
  exact mod_any n m w (by omega) (by omega)
theorem red_set {xs : List Int} {i : Nat} (hi : i < xs.length) (j : Nat) : red (xs.getD j 0) = red ((xs.set i (red (xs.getD i 0))).getD j 0) := by
  rw [List.getD_eq_getElem?_getD (l := xs.set _ _), List.getElem?_set]
  by_cases h : i = j
  · subst h
    simp [hi, red_red]
  · rw [if_neg h, List.getD_eq_getElem?_getD]
theorem getD_setI (xs : List Int) (i : Nat) (x : Int) (hi : i < xs.length) (k : Nat) : (xs.set i x).getD k 0 = if k = i then x else xs.getD k 0 := by
  rw [List.getD_eq_getElem?_getD, List.getElem?_set]
  by_cases h : i = k
  · subst h; simp [hi]
  · rw [if_neg h, if_neg (Ne.symm h), List.getD_eq_getElem?_getD]
set_option maxRecDepth 100000 in
set_option maxHeartbeats 8000000 in
theorem modulus_any (p0 : Nat → Prop) (w : World) (inp : Int) (qs : List (List QO)) (ins : List Int) (q i : Int) (qv iv : Value) (hq : I3ss p0 w qv qs) (hi : IntsP p0 w iv ins) (hp0 : ∀ k, p0 k → k < w.heap.size) :
    Calls Try.prog 3 #[.agg #[.int .i64 inp, qv], iv, .int .i64 q, .int .i64 i] w fun e w' => e = .returned (.bool true) ∧ Chg [] w w' := by
  obtain ⟨av, capv, rfl, hlm, hlc⟩ := hq.shape
  have Hq := Lib.hid hq
  have Hi := Lib.hid hi
  have Hp0 := Lib.hid hp0
  have hc0 : Chg [] w (w.alloc (.cells #[.int .i64 inp, .slice av qs.length capv] 24)) := (Chg.refl [] w).alloc _
  have Hc0 := Lib.hid hc0
  clear hq hi hp0 hc0
  unfold maxLen at hlm
  go_enter Try.func3, Try.ntmps3
  go_wp2_with fail
  refine (queryExample_any _).mono ?_
  rintro e w1 ⟨rfl, c1⟩
  have m0 : w1.cell? ⟨w.heap.size, 0, none⟩ = some (.int .i64 inp) := (c1.cell (p := ⟨w.heap.size, 0, none⟩) (by simp) (by simp)).trans (cell_of_heap (heap_at _ _ _ rfl) rfl)
  have m1 : w1.cell? ⟨w.heap.size, 1, none⟩ = some (.slice av qs.length capv) := (c1.cell (p := ⟨w.heap.size, 1, none⟩) (by simp) (by simp)).trans (cell_of_heap (heap_at _ _ _ rfl) rfl)
  have lm := lt_of_cell m0
  have Hc1 := Lib.hid (Hc0.out.trans c1)
  clear c1
  go_wp2_with fail
  refine (usable_any (fun g => g < w1.heap.size) _ inp qs _ (Hq.out.old Hp0.out Hc1.out)).mono ?_
  rintro e w2 ⟨b, rfl, hb, c2⟩
  have n0 := (c2.cell (p := ⟨w.heap.size, 0, none⟩) lm (by simp)).trans m0
  have n1 := (c2.cell (p := ⟨w.heap.size, 1, none⟩) lm (by simp)).trans m1
  have ln := lt_of_cell n0
  have Hc2 := Lib.hid (Hc1.out.trans c2)
  clear c2 m0 m1 lm
  cases b with
  | false =>
    clear hb
    go_wp2_with fail
    refine (queryExample_any _).mono ?_
    rintro e w3 ⟨rfl, c3⟩
    go_wp2
    go_ret
    exact ⟨rfl, Hc2.out.trans c3⟩
  | true =>
    obtain ⟨hok, hl0, hi0⟩ := hb.1 rfl
    clear hb
    obtain ⟨N, rfl⟩ := Int.eq_ofNat_of_zero_le hok.inp.1
    have hN := hok.inp.2
    have hL := hok.size
    simp only at hN hL
    obtain ⟨qn, hqn, hmq⟩ := modN q qs.length (by omega) (by omega)
    obtain ⟨jn, hjn, hmi⟩ := modN i N (by omega) (by omega)
    have Hmq := Lib.hid hmq
    have Hmi := Lib.hid hmi
    have Hok := Lib.hid hok
    clear hmq hmi hok
    go_wp2_with fail
    go_region_held3 (fun w' => w'.cell? ⟨w.heap.size, 0, none⟩ = some (.int .i64 (N : Int)) ∧ w'.cell? ⟨w.heap.size, 1, none⟩ = some (.slice av qs.length capv))
      (first | (go_keep; done) | (exact kS3))
      (first
        | (go_at_call 8; refine (fit_any p0 _ _ ins N (by omega) (IntsP.kept Hi.out ((Hc2.out.drew).p (S := fun _ => False)) (fun _ _ h => h))).mono ?_; rintro e w3 ⟨gf, rfl, hgf, hrf, cf⟩; have kS3 : w3.cell? ⟨w.heap.size, 0, none⟩ = some (.int .i64 (N : Int)) ∧ w3.cell? ⟨w.heap.size, 1, none⟩ = some (.slice av qs.length capv) := ⟨(cf.cell (p := ⟨w.heap.size, 0, none⟩) ln (by simp)).trans n0, (cf.cell (p := ⟨w.heap.size, 1, none⟩) ln (by simp)).trans n1⟩; have Hrf := Lib.hid hrf; have Hcf := Lib.hid (Hc2.out.drew.trans cf); have Hgf := Lib.hid hgf; clear hrf cf hgf)
        | (go_at_call 9; with_reducible refine (Hmq.out _).mono ?_; rintro e w' ⟨rfl, rfl⟩)
        | (go_at_call 9; with_reducible refine (Hmi.out _).mono ?_; rintro e w' ⟨rfl, rfl⟩))
    all_goals
      obtain ⟨k0, k1⟩ := kS3
      have lk := lt_of_cell k0
      have hlen := fitL_len ins N
      have hqs3 := Hq.out.old Hp0.out Hcf.out
      have hin3 := ints_row hlen (by omega) Hrf.out
      have Hqs3 := Lib.hid hqs3
      have Hin3 := Lib.hid hin3
      have Hlen := Lib.hid hlen
      have hgw : w.heap.size < gf := by have := Hgf.out; have : w.heap.size < w2.drew.heap.size := ln; omega
      clear hqs3 hin3 hlen n0 n1
      go_wp2_with fail
      refine (eval_any (fun g => g < w3.heap.size) _ ⟨N, qs⟩ (fitL ins N) qn _ _ Hqs3.out Hin3.out (fun k hk => hk)).mono ?_
      rintro e w4 ⟨h4 | h4, c4⟩
      · obtain ⟨_, rfl⟩ := h4
        have hrf4 := Hrf.out.of_block (c4.block gf Hrf.out.lt (by simp))
        have k04 := (c4.cell (p := ⟨w.heap.size, 0, none⟩) lk (by simp)).trans k0
        have k14 := (c4.cell (p := ⟨w.heap.size, 1, none⟩) lk (by simp)).trans k1
        have Hrf4 := Lib.hid hrf4
        have r0 := hrf4.cell hjn
        have rf := hrf4.frozen jn
        have lr := lt_of_cell r0
        have lk4 := lt_of_cell k04
        obtain ⟨x, hx⟩ : ∃ x, (fitL ins N).getD jn 0 = x := ⟨_, rfl⟩
        rw [hx] at r0
        have Hx := Lib.hid hx
        have Hc4 := Lib.hid (Hcf.out.trans c4)
        have hjn1 : (jn : Int) < (N : Int) := by omega
        clear hrf4 hx c4 k0 k1 lk
        obtain ⟨va, hva⟩ : ∃ va, val ⟨N, qs⟩ (fitL ins N) ((qn : Int)).toNat = va := ⟨_, rfl⟩
        have hvs := val_small ⟨N, qs⟩ (fitL ins N) ((qn : Int)).toNat
        rw [hva] at hvs
        rw [hva]
        have Hva := Lib.hid hva
        clear hva
        obtain ⟨hvs0, hvs1⟩ := hvs
        go_wp2_with fail
        refine (mod_any x 1000003 _ (by decide) (by decide)).mono ?_
        rintro e w5 ⟨rfl, rfl⟩
        rw [modI_eq x _ (by decide)]
        obtain ⟨y, hy⟩ : ∃ y, x % 1000003 = y := ⟨_, rfl⟩
        rw [hy]
        have Hy := Lib.hid hy
        clear hy
        have hrow6 := (Hrf4.out.set jn (.int .i64 y)).congr (g := fun j => .int .i64 (((fitL ins N).set jn y).getD j 0)) (fun j hj => by
          rw [getD_setI _ _ _ (by rw [Hlen.out]; exact hjn)]
          split <;> rfl)
        have hset : Chg [] w (w4.setCell ⟨gf, jn, none⟩ (.int .i64 y)) := Hc4.out.setCell (Or.inr (by show w.heap.size ≤ gf; omega)) _
        have Hset := Lib.hid hset
        have hqs6 := Hq.out.old Hp0.out hset
        have hin6 := ints_row (by rw [List.length_set]; exact Hlen.out) (by omega) hrow6
        have Hqs6 := Lib.hid hqs6
        have Hin6 := Lib.hid hin6
        clear hrow6 hset hqs6 hin6
        go_wp2_with fail
        refine (eval_any (fun g => g < (w4.setCell ⟨gf, jn, none⟩ (.int .i64 y)).heap.size) _ ⟨N, qs⟩ ((fitL ins N).set jn y) qn _ _ Hqs6.out Hin6.out (fun k hk => hk)).mono ?_
        rintro e w6 ⟨h6 | h6, c6⟩
        · obtain ⟨_, rfl⟩ := h6
          have hsame : val ⟨N, qs⟩ ((fitL ins N).set jn y) ((qn : Int)).toNat = va := by
            rw [← Hva.out]
            refine (val_ins Hok.out (fun j => ?_) _ (by simpa using hqn)).symm
            have := red_set (xs := fitL ins N) (i := jn) (by rw [Hlen.out]; exact hjn) j
            rw [Hx.out] at this
            rw [← Hy.out]
            exact this
          rw [hsame]
          have Hc6 := Lib.hid (Hset.out.trans c6)
          clear hsame c6
          have hd1 : decide (va < 1000003) = true := decide_eq_true hvs1
          have hd0 : decide (0 ≤ va) = true := decide_eq_true hvs0
          go_wp2_with fail
          refine (queryExample_any _).mono ?_
          rintro e w7 ⟨rfl, c7⟩
          go_wp2
          go_ret
          exact ⟨rfl, Hc6.out.trans c7⟩
        · exact absurd ⟨Hok.out, by rw [List.length_set, Hlen.out], by omega, by simp only; omega⟩ h6.1
      · exact absurd ⟨Hok.out, by rw [Hlen.out], by omega, by simp only; omega⟩ h4.1
end Go.Proofs.Ytipipklgjcjnoaa
