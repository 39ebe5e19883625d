/- filewatch.validate, at events that are in order. -/
import Derived.Test.YtdekngkcojfhmaaFwO
namespace Go.Proofs.Ytdekngkcojfhmaa
open Go.RowKit Go.ChangeMaps Go.MapKept Go.Shelf
set_option linter.unusedVariables false
set_option linter.unusedSimpArgs false
theorem valid1_any (e : FEv) (w : World) (h : vk e.2.2 = true) : Calls Try.prog 26 #[evV e] w fun x w' => x = .returned (.bool false) ∧ Chg [] w w' := by
  obtain ⟨t, p, k⟩ := e
  have HV := fun w => Lib.hid (validKind_any k w)
  have Hk := Lib.hid (show vk k = true from h)
  clear h
  unfold evV
  go_enter Try.func26, Try.ntmps26
  go_wp2_with fail
  refine (HV _).out.mono ?_
  rintro e w1 ⟨rfl, rfl⟩
  rw [Hk.out]
  go_wp2_with fail
  go_ret
  exact ⟨rfl, (Chg.refl [] w).alloc _⟩
/-- events that may be taken: valid kinds, times in order -/
structure EvOk (E : List FEv) : Prop where
  len : E.length ≤ 1000
  kind : ∀ e ∈ E, vk e.2.2 = true
  time : ∀ e ∈ E, 0 ≤ e.1 ∧ e.1 ≤ 1000000000000
  ord : E.Pairwise fun a b => a.1 ≤ b.1
  path : ∀ e ∈ E, e.2.1.size ≤ maxLen
theorem getD_memE {E : List FEv} {k : Nat} (h : k < E.length) : E.getD k ev0 ∈ E := by
  rw [List.getD_eq_getElem?_getD, List.getElem?_eq_getElem h]
  simp
set_option maxHeartbeats 2000000 in
theorem idxV_any (p : Nat → Prop) (w : World) (v : Value) (E : List FEv) (h : EvsP p w v E) (hE : EvOk E) :
    Calls Try.prog 32 #[v, .func (.func 26) #[] #[]] w fun e w' => e = .returned (.int .i64 (-1)) ∧ Chg [] w w' := by
  obtain ⟨a, cap, rfl, hml, hcp⟩ := h.shape
  have H := Lib.hid h
  have HE := Lib.hid hE
  have hl := hE.len
  clear h hE hml
  go_enter Try.func32, Try.ntmps32
  go_wp2_with fail
  go_loopw [8] (fun i wr => ∃ k : Nat, k ≤ E.length ∧ i = .int .i64 (k : Nat) ∧ Chg [] w wr) (fun i _ => E.length - (intOf i).toNat)
  case atStart => exact ⟨0, by omega, rfl, Chg.refl _ _⟩
  case round =>
    obtain ⟨k, hk, rfl, hc⟩ := hrel
    by_cases hlt : k < E.length
    · obtain ⟨g, off, rfl, hp, c0, c1, c2⟩ := (H.out.same hc).cells k hlt
      have hm := HE.out.kind _ (getD_memE hlt)
      obtain ⟨⟨t, pa, kd⟩, hr⟩ : ∃ r, E.getD k ev0 = r := ⟨_, rfl⟩
      rw [hr] at c0 c1 c2 hm
      simp only at c0 c1 c2
      have Hm := Lib.hid hm
      have Hc := Lib.hid hc
      clear hm hr hc
      have hk1 : (k : Int) < E.length := by omega
      go_wp2_with fail
      refine (valid1_any (t, pa, kd) wr Hm.out).mono ?_
      rintro e w1 ⟨rfl, h1⟩
      have Hc1 := Lib.hid (Hc.out.trans h1)
      clear h1
      go_wp2_with fail
      exact ⟨⟨k + 1, by omega, by go_num, Hc1.out⟩, by simp [intOf]; omega⟩
    · obtain rfl : k = E.length := by omega
      have Hc := Lib.hid hc
      clear hc
      go_wp2_with fail
      go_ret
      exact ⟨rfl, Hc.out⟩
theorem containsV_any (p : Nat → Prop) (w : World) (v : Value) (E : List FEv) (h : EvsP p w v E) (hE : EvOk E) :
    Calls Try.prog 25 #[v, .func (.func 26) #[] #[]] w fun e w' => e = .returned (.bool false) ∧ Chg [] w w' := by
  have Hi := Lib.hid (idxV_any p w v E h hE)
  clear h hE
  go_enter Try.func25, Try.ntmps25
  go_wp2_with fail
  refine Hi.out.mono ?_
  rintro e w1 ⟨rfl, hc⟩
  have Hc := Lib.hid hc
  clear hc
  go_wp2_with fail
  go_ret
  exact ⟨rfl, Hc.out⟩
set_option maxRecDepth 100000 in
set_option maxHeartbeats 4000000 in
theorem validate_any (p : Nat → Prop) (w : World) (v : Value) (E : List FEv) (d : Int) (h : EvsP p w v E) (hE : EvOk E) (h0 : 0 ≤ d) (h1 : d ≤ 1000000) :
    Calls Try.prog 19 #[v, .int .i64 d] w fun e w' => e = .returned (.int .i64 0) ∧ Chg [] w w' := by
  obtain ⟨a, cap, rfl, hml, hcp⟩ := h.shape
  have H := Lib.hid h
  have HE := Lib.hid hE
  have Hcf := Lib.hid (containsV_any p w _ E h hE)
  have hl := hE.len
  clear h hE hml
  have d1 : ¬ d < 0 := by omega
  have d2 : ¬ (1000000 : Int) < d := by omega
  have d3 : ¬ (1000 : Int) < E.length := by omega
  go_enter Try.func19, Try.ntmps19
  go_wp2_with fail
  refine Hcf.out.mono ?_
  rintro e w1 ⟨rfl, hc1⟩
  have Hc1 := Lib.hid hc1
  clear hc1
  go_wp2_with fail
  go_loopw [23] (fun i wr => ∃ k : Nat, k ≤ E.length ∧ i = .int .i64 (k : Nat) ∧ Chg [] w wr) (fun i _ => E.length - (intOf i).toNat)
  case atStart => exact ⟨0, by omega, rfl, Hc1.out⟩
  case round =>
    obtain ⟨k, hk, rfl, hc⟩ := hrel
    by_cases hlt : k < E.length
    · obtain ⟨g, off, rfl, hp, c0, c1, c2⟩ := (H.out.same hc).cells k hlt
      have hm := HE.out.time _ (getD_memE hlt)
      have hord : 0 < k → (E.getD (k - 1) ev0).1 ≤ (E.getD k ev0).1 := by
        intro hk0
        have := List.pairwise_iff_getElem.1 HE.out.ord (k - 1) k (by omega) hlt (by omega)
        rw [List.getD_eq_getElem?_getD, List.getD_eq_getElem?_getD, List.getElem?_eq_getElem hlt, List.getElem?_eq_getElem (show k - 1 < E.length by omega)]
        exact this
      obtain ⟨⟨t, pa, kd⟩, hr⟩ : ∃ r, E.getD k ev0 = r := ⟨_, rfl⟩
      rw [hr] at c0 c1 c2 hm hord
      simp only at c0 c1 c2 hm hord
      have t0 : decide (t < 0) = false := decide_eq_false (by omega)
      have t1 : decide ((1000000000000 : Int) < t) = false := decide_eq_false (by omega)
      have hk1 : (k : Int) < E.length := by omega
      by_cases hk0 : 0 < k
      · have hord := hord hk0
        obtain ⟨g', off', ha', hp', b0, b1, b2⟩ := (H.out.same hc).cells (k - 1) (by omega)
        simp only [Option.some.injEq, Addr.mk.injEq, and_true] at ha'
        obtain ⟨rfl, rfl⟩ := ha'
        obtain ⟨⟨t', pa', kd'⟩, hr'⟩ : ∃ r, E.getD (k - 1) ev0 = r := ⟨_, rfl⟩
        rw [hr'] at b0 hord
        simp only at b0 hord
        have hto : decide (t < t') = false := decide_eq_false (by omega)
        have e1 : ((k : Int) - 1) = ((k - 1 : Nat) : Int) := by omega
        have hk2 : decide ((0 : Int) < k) = true := decide_eq_true (by omega)
        have Hc := Lib.hid hc
        clear hr hc hord hr' b1 b2 hm
        have l0 := lt_of_cell c0
        have hka : (k : Int) - 1 < E.length := by omega
        have hkb : (0 : Int) ≤ (k : Int) - 1 := by omega
        have hkn : ((k : Int) - 1).toNat = k - 1 := by omega
        go_wp2_with fail
        go_quiet (fail)
        go_wp2_with fail
        exact ⟨⟨k + 1, by omega, by go_num, (Hc.out.alloc _).drewN _⟩, by simp [intOf]; omega⟩
      · obtain rfl : k = 0 := by omega
        simp only [Nat.zero_mul, Nat.add_zero, Nat.zero_add] at c0 c1 c2
        have Hc := Lib.hid hc
        clear hr hc hord
        have l0 := lt_of_cell c0
        go_wp2_with fail
        go_quiet (fail)
        go_wp2_with fail
        exact ⟨⟨1, by omega, rfl, (Hc.out.alloc _).drewN _⟩, by simp [intOf]; omega⟩
    · obtain rfl : k = E.length := by omega
      have Hc := Lib.hid hc
      clear hc
      go_wp2_with fail
      go_ret
      exact ⟨rfl, Hc.out⟩
end Go.Proofs.Ytdekngkcojfhmaa
