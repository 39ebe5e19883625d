/- QuerylangPrefix: the law's walk. -/
import Derived.Test.YtipipklgjcjnoaaQryJ
namespace Go.Proofs.Ytipipklgjcjnoaa
open Go.RowKit Go.ChangeMaps Go.MapKept
set_option linter.unusedVariables false
theorem I3ss.taken {p : Nat → Prop} {w : World} {a : Option Addr} {n cap : Nat} {xs : List (List I3)} (h : I3ss p w (.slice a n cap) xs) (m : Nat) (hm : m ≤ xs.length) : I3ss p w (.slice a (xs.take m).length cap) (xs.take m) := by
  obtain ⟨a', cap', hv, h1, h2, h3⟩ := h
  simp only [Value.slice.injEq] at hv
  obtain ⟨rfl, _, rfl⟩ := hv
  refine ⟨a, cap, rfl, by rw [List.length_take]; omega, h2, fun h0 => ?_⟩
  rw [List.length_take] at h0
  obtain ⟨g, off, rfl, hg, hc⟩ := h3 (by omega)
  refine ⟨g, off, rfl, hg, fun j hj => ?_⟩
  have hj' : j < xs.length := by rw [List.length_take] at hj; omega
  have := hc j hj'
  simpa using this
theorem eval_yes (p0 : Nat → Prop) (w : World) (p : Prg) (ins : List Int) (q : Int) (qv iv : Value) (hq : I3ss p0 w qv p.qs) (hi : IntsP p0 w iv ins) (hp0 : ∀ k, p0 k → k < w.heap.size) (hok : EvOk p ins q) :
    Calls Try.prog 10 #[.agg #[.int .i64 p.inp, qv], iv, .int .i64 q] w fun e w' => e = .returned (.tuple #[.int .i64 (val p ins q.toNat), .int .i64 0]) ∧ Chg [] w w' :=
  (eval_any p0 w p ins q qv iv hq hi hp0).mono fun e w' ⟨h, hc⟩ => ⟨h.elim (fun h => h.2) (fun h => absurd hok h.1), hc⟩
set_option maxRecDepth 100000 in
set_option maxHeartbeats 8000000 in
theorem prefixLaw_any (p0 : Nat → Prop) (w : World) (inp : Int) (qs : List (List QO)) (ins : List Int) (q ln : Int) (qv iv : Value) (hq : I3ss p0 w qv qs) (hi : IntsP p0 w iv ins) (hp0 : ∀ k, p0 k → k < w.heap.size) :
    Calls Try.prog 4 #[.agg #[.int .i64 inp, qv], iv, .int .i64 q, .int .i64 ln] w fun e w' => e = .returned (.bool true) ∧ Chg [] w w' := by
  obtain ⟨av, capv, rfl, hlm, hlc⟩ := hq.shape
  have Hq := Lib.hid hq
  have Hi := Lib.hid hi
  have Hp0 := Lib.hid hp0
  have hc0 : Chg [] w (w.alloc (.cells #[.int .i64 inp, .slice av qs.length capv] 24)) := (Chg.refl [] w).alloc _
  have Hc0 := Lib.hid hc0
  clear hq hi hp0 hc0
  unfold maxLen at hlm
  go_enter Try.func4, Try.ntmps4
  go_wp2_with fail
  refine (queryExample_any _).mono ?_
  rintro e w1 ⟨rfl, c1⟩
  have m0 : w1.cell? ⟨w.heap.size, 0, none⟩ = some (.int .i64 inp) := (c1.cell (p := ⟨w.heap.size, 0, none⟩) (by simp) (by simp)).trans (cell_of_heap (heap_at _ _ _ rfl) rfl)
  have m1 : w1.cell? ⟨w.heap.size, 1, none⟩ = some (.slice av qs.length capv) := (c1.cell (p := ⟨w.heap.size, 1, none⟩) (by simp) (by simp)).trans (cell_of_heap (heap_at _ _ _ rfl) rfl)
  have lm := lt_of_cell m0
  have Hc1 := Lib.hid (Hc0.out.trans c1)
  clear c1
  go_wp2_with fail
  refine (usable_any (fun g => g < w1.heap.size) _ inp qs _ (Hq.out.old Hp0.out Hc1.out)).mono ?_
  rintro e w2 ⟨b, rfl, hb, c2⟩
  have n0 := (c2.cell (p := ⟨w.heap.size, 0, none⟩) lm (by simp)).trans m0
  have n1 := (c2.cell (p := ⟨w.heap.size, 1, none⟩) lm (by simp)).trans m1
  have ln' := lt_of_cell n0
  have Hc2 := Lib.hid (Hc1.out.trans c2)
  clear c2 m0 m1 lm
  cases b with
  | false =>
    clear hb
    go_wp2_with fail
    refine (queryExample_any _).mono ?_
    rintro e w3 ⟨rfl, c3⟩
    go_wp2
    go_ret
    exact ⟨rfl, Hc2.out.trans c3⟩
  | true =>
    obtain ⟨hok, hl0, hi0⟩ := hb.1 rfl
    clear hb
    obtain ⟨N, rfl⟩ := Int.eq_ofNat_of_zero_le hok.inp.1
    have hN := hok.inp.2
    have hL := hok.size
    simp only at hN hL
    obtain ⟨qn, hqn, hmq⟩ := modN q qs.length (by omega) (by omega)
    obtain ⟨jn, hjn, hmi⟩ := modN ln (qs.length - qn) (by omega) (by omega)
    have hcast : ((qs.length - qn : Nat) : Int) = (qs.length : Int) - (qn : Int) := by omega
    rw [hcast] at hmi
    have Hmq := Lib.hid hmq
    have Hmi := Lib.hid hmi
    have Hok := Lib.hid hok
    clear hmq hmi hok hcast
    go_wp2_with fail
    go_region_held3 (fun w' => w'.cell? ⟨w.heap.size, 0, none⟩ = some (.int .i64 (N : Int)) ∧ w'.cell? ⟨w.heap.size, 1, none⟩ = some (.slice av qs.length capv))
      (first | (go_keep; done) | (exact kS3))
      (first
        | (go_at_call 8; refine (fit_any p0 _ _ ins N (by omega) (IntsP.kept Hi.out ((Hc2.out.drew).p (S := fun _ => False)) (fun _ _ h => h))).mono ?_; rintro e w3 ⟨gf, rfl, hgf, hrf, cf⟩; have kS3 : w3.cell? ⟨w.heap.size, 0, none⟩ = some (.int .i64 (N : Int)) ∧ w3.cell? ⟨w.heap.size, 1, none⟩ = some (.slice av qs.length capv) := ⟨(cf.cell (p := ⟨w.heap.size, 0, none⟩) ln' (by simp)).trans n0, (cf.cell (p := ⟨w.heap.size, 1, none⟩) ln' (by simp)).trans n1⟩; have Hrf := Lib.hid hrf; have Hcf := Lib.hid (Hc2.out.drew.trans cf); have Hgf := Lib.hid hgf; clear hrf cf hgf)
        | (go_at_call 9; with_reducible refine (Hmq.out _).mono ?_; rintro e w' ⟨rfl, rfl⟩))
    all_goals
      obtain ⟨k0, k1⟩ := kS3
      have lk := lt_of_cell k0
      have hlen := fitL_len ins N
      have hqs3 := Hq.out.old Hp0.out Hcf.out
      have hin3 := ints_row hlen (by omega) Hrf.out
      have Hqs3 := Lib.hid hqs3
      have Hin3 := Lib.hid hin3
      have Hlen := Lib.hid hlen
      have hqn1 : (qn : Int) < qs.length := by omega
      clear hqs3 hin3 hlen n0 n1
      go_wp2_with fail
      refine (Hmi.out _).mono ?_
      rintro e w4 ⟨rfl, rfl⟩
      go_wp2_with fail
      refine (eval_any (fun g => g < w3.heap.size) _ ⟨N, qs⟩ (fitL ins N) qn _ _ Hqs3.out Hin3.out (fun k hk => hk)).mono ?_
      rintro e w4 ⟨h4 | h4, c4⟩
      · obtain ⟨_, rfl⟩ := h4
        have hrf4 := Hrf.out.of_block (c4.block gf Hrf.out.lt (by simp))
        have k04 := (c4.cell (p := ⟨w.heap.size, 0, none⟩) lk (by simp)).trans k0
        have k14 := (c4.cell (p := ⟨w.heap.size, 1, none⟩) lk (by simp)).trans k1
        have lk4 := lt_of_cell k04
        have hc4 := Hcf.out.trans c4
        have Hc4 := Lib.hid hc4
        clear k0 k1 lk
        obtain ⟨va, hva⟩ : ∃ va, val ⟨N, qs⟩ (fitL ins N) ((qn : Int)).toNat = va := ⟨_, rfl⟩
        rw [hva]
        have Hva := Lib.hid hva
        have hm : qn + 1 + jn ≤ qs.length := by omega
        have hm1 : ((qn : Int) + 1 + (jn : Int)) ≤ capv := by omega
        have hm0 : (0 : Int) ≤ ((qn : Int) + 1 + (jn : Int)) := by omega
        have hmt : ((qn : Int) + 1 + (jn : Int)).toNat = qn + 1 + jn := by omega
        have hqs4 := I3ss.taken (Hq.out.old Hp0.out hc4.drew) (qn + 1 + jn) hm
        have hin4 : IntsP (fun g => g < w4.drew.heap.size) w4.drew (.slice (some ⟨gf, 0, none⟩) N N) (fitL ins N) := ints_row Hlen.out (by omega) hrf4
        have Hqs4 := Lib.hid hqs4
        have Hin4 := Lib.hid hin4
        have Hmt := Lib.hid hmt
        have htl : (qs.take (qn + 1 + jn)).length = qn + 1 + jn := by rw [List.length_take]; omega
        rw [htl] at Hqs4
        have Htl := Lib.hid htl
        clear hva hrf4 hc4 c4 hqs4 hin4 hmt htl
        go_wp2_with fail
        have hev : EvOk ⟨N, qs.take (qn + 1 + jn)⟩ (fitL ins N) qn := ⟨first_ok Hok.out _ hm, by rw [Hlen.out], by omega, by simp only [Htl.out]; omega⟩
        have hcall := eval_yes (fun g => g < w4.drew.heap.size) w4.drew ⟨N, qs.take (qn + 1 + jn)⟩ (fitL ins N) qn _ _ Hqs4.out Hin4.out (fun k hk => hk) hev
        have hvb : val ⟨N, qs.take (qn + 1 + jn)⟩ (fitL ins N) ((qn : Int)).toNat = va := by
          rw [← Hva.out]
          exact vq_first Hok.out _ _ hm _ _ (by simp; omega)
        rw [hvb] at hcall
        have Hcall := Lib.hid hcall
        clear hev hcall hvb
        go_region_held3 (fun w' => w'.cell? ⟨w.heap.size, 0, none⟩ = some (.int .i64 (N : Int)) ∧ w'.cell? ⟨w.heap.size, 1, none⟩ = some (.slice av qs.length capv))
          (first | (go_keep; done) | (exact kS5))
          ((go_at_call 10; (try rw [Hmt.out]); refine (Hcall.out).mono ?_; rintro e w5 ⟨rfl, c5⟩; have kS5 : w5.cell? ⟨w.heap.size, 0, none⟩ = some (.int .i64 (N : Int)) ∧ w5.cell? ⟨w.heap.size, 1, none⟩ = some (.slice av qs.length capv) := ⟨(c5.cell (p := ⟨w.heap.size, 0, none⟩) lk4 (by simp)).trans k04, (c5.cell (p := ⟨w.heap.size, 1, none⟩) lk4 (by simp)).trans k14⟩; have Hc5 := Lib.hid (Hc4.out.drew.trans c5); clear c5))
        go_wp2_with fail
        refine (queryExample_any _).mono ?_
        rintro e w7 ⟨rfl, c7⟩
        go_wp2
        go_ret
        exact ⟨rfl, Hc5.out.trans c7⟩
      · exact absurd ⟨Hok.out, by rw [Hlen.out], by omega, by simp only; omega⟩ h4.1
end Go.Proofs.Ytipipklgjcjnoaa
