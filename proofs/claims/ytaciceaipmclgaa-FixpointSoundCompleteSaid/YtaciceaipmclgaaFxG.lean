/- Verify. -/
import Derived.Test.YtaciceaipmclgaaFxF
namespace Go.Proofs.Ytaciceaipmclgaa
open Go.RowKit
set_option linter.unusedVariables false
set_option maxHeartbeats 1000000 in
/-- Verify of a valid proof -/
theorem verify_any (p q : Nat → Prop) (w : World) (R : Rules) (v vp : Value) (e st : Nat) (Q : PS) (hR : RulesAt p w v R) (hok : Okr R) (he : e < 20) (hQ : StepL q w vp e Q) (hV : ValidP R e Q) (h0 : 0 < Q.length) (hlast : (Q.getD (Q.length - 1) dPS).1 = st) :
    Calls Try.prog 16 #[v, vp, .int .i64 (st : Int), .int .i64 (e : Int)] w fun o w' => o = .returned (.bool true) ∧ Chg [] w w' := by
  obtain ⟨av, capv, rfl⟩ : ∃ a cap, v = .slice a R.length cap := by obtain ⟨a, cap, h, _⟩ := hR; exact ⟨a, cap, h⟩
  obtain ⟨aq, capq, rfl, hq1, hq2, hq3, _⟩ := id hQ
  have HR := Lib.hid hR
  have Hok := Lib.hid hok
  have HQ := Lib.hid hQ
  have HV := Lib.hid hV
  have Hlast := Lib.hid hlast
  have hne : ((Q.length : Int) == 0) = false := beq_false_of_ne (by omega)
  have hne2 : ¬ (Q.length : Int) = 0 := by omega
  clear hR hok hQ hV hlast
  go_enter Try.func16, Try.ntmps16
  go_wp2_with fail
  refine (check_any p _ R _ HR.out).mono ?_
  rintro o w1 ⟨c, rfl, hc, c1⟩
  obtain rfl := hc.2 Hok.out
  have C1 := Lib.hid c1
  clear hc c1
  go_wp2
  go_loopw [21] (fun i wr => ∃ k : Nat, k ≤ Q.length ∧ i = .int .i64 (k : Nat) ∧ Chg [] w wr) (fun i _ => Q.length - (intOf i).toNat)
  case atStart => exact ⟨0, by omega, rfl, C1.out⟩
  case round =>
    clear C1
    obtain ⟨k, hk, rfl, hcw⟩ := hrel
    by_cases hlt : k < Q.length
    · have hk1 : (k : Int) < Q.length := by omega
      have Hv := Lib.hid (validStep_any p q wr R (.slice av R.length capv) (.slice aq Q.length capq) e k Q (HR.out.kept hcw (by simp)) Hok.out he (HQ.out.kept hcw (by simp)) HV.out hlt)
      go_wp2_with fail
      refine Hv.out.mono ?_
      rintro o w1 ⟨rfl, c1⟩
      go_wp2
      exact ⟨⟨k + 1, by omega, by go_num, hcw.trans c1⟩, by simp [intOf]; omega⟩
    · obtain rfl : k = Q.length := by omega
      obtain ⟨n, hn⟩ : ∃ n, Q.length = n + 1 := ⟨Q.length - 1, by omega⟩
      obtain ⟨g, off, rfl, q0, q1, q2⟩ := (HQ.out.kept hcw (by simp)).at n (by omega)
      have hl : (Q.getD n dPS).1 = st := by have := Hlast.out; rw [hn, Nat.add_sub_cancel] at this; exact this
      rw [hl] at q0
      have lq : g < wr.heap.size := lt_of_cell q0
      rw [hn]
      clear hl
      go_wp2
      go_ret
      exact ⟨by first | rfl | (simp; rfl), hcw.alloc _⟩
/-- Verify of no proof -/
theorem verify_nil (p : Nat → Prop) (w : World) (R : Rules) (v a b : Value) (hR : RulesAt p w v R) :
    Calls Try.prog 16 #[v, .slice none 0 0, a, b] w fun o w' => o = .returned (.bool false) ∧ Chg [] w w' := by
  have HR := Lib.hid hR
  obtain ⟨av, capv, rfl⟩ : ∃ a cap, v = .slice a R.length cap := by obtain ⟨a, cap, h, _⟩ := hR; exact ⟨a, cap, h⟩
  clear hR
  go_enter Try.func16, Try.ntmps16
  go_wp2_with fail
  refine (check_any p _ R _ HR.out).mono ?_
  rintro o w1 ⟨c, rfl, hc, c1⟩
  clear hc
  by_cases h : c = 0
  · subst h
    go_wp2
    go_ret
    exact ⟨rfl, c1⟩
  · have hne : (c == 0) = false := beq_false_of_ne h
    go_wp2
    go_ret
    exact ⟨rfl, c1⟩
end Go.Proofs.Ytaciceaipmclgaa
