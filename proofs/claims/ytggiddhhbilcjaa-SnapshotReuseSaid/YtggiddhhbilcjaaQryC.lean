/- Which query programs are valid: operands, checkQuery, Check. -/
import Derived.Test.YtggiddhhbilcjaaQryA
namespace Go.Proofs.Ytggiddhhbilcjaa
open Go.RowKit
set_option linter.unusedVariables false
/-- an earlier query -/
def inB (idx a : Int) : Bool := decide (0 ≤ a ∧ a < idx)
/-- may the instruction stand in query idx? (its code aside) -/
def opVal (inp idx : Int) (o : QO) : Bool :=
  if o.1 = 1 then decide (o.2.2 = 0) else if o.1 = 2 then decide (o.2.2 = 0 ∧ 0 ≤ o.2.1 ∧ o.2.1 < inp) else if o.1 = 3 then decide (o.2.2 = 0 ∧ 0 ≤ o.2.1 ∧ o.2.1 < idx)
  else if o.1 = 4 then decide (o.2.1 = 0 ∧ o.2.2 = 0 ∧ 0 < idx) else if o.1 = 5 then decide ((0 ≤ o.2.1 ∧ o.2.1 < idx) ∧ 0 ≤ o.2.2 ∧ o.2.2 < idx) else decide (o.2.1 = 0 ∧ o.2.2 = 0)
theorem opVal1 {inp idx a b : Int} : opVal inp idx (1, a, b) = decide (b = 0) := rfl
theorem opVal2 {inp idx a b : Int} : opVal inp idx (2, a, b) = decide (b = 0 ∧ 0 ≤ a ∧ a < inp) := rfl
theorem opVal3 {inp idx a b : Int} : opVal inp idx (3, a, b) = decide (b = 0 ∧ 0 ≤ a ∧ a < idx) := rfl
theorem opVal4 {inp idx a b : Int} : opVal inp idx (4, a, b) = decide (a = 0 ∧ b = 0 ∧ 0 < idx) := rfl
theorem opVal5 {inp idx a b : Int} : opVal inp idx (5, a, b) = decide ((0 ≤ a ∧ a < idx) ∧ 0 ≤ b ∧ b < idx) := rfl
theorem opVal6 {inp idx op a b : Int} (e1 : ¬ op = 1) (e2 : ¬ op = 2) (e3 : ¬ op = 3) (e4 : ¬ op = 4) (e5 : ¬ op = 5) : opVal inp idx (op, a, b) = decide (a = 0 ∧ b = 0) := by
  unfold opVal
  rw [if_neg e1, if_neg e2, if_neg e3, if_neg e4, if_neg e5]
theorem hpopsE {op a b : Int} (e1 : ¬ op = 1) (e2 : ¬ op = 2) (e3 : ¬ op = 3) (e4 : ¬ op = 4) (e5 : ¬ op = 5) : pops (op, a, b) = 2 := by
  unfold pops
  rw [if_neg (by simp only; omega), if_neg (by simp only; omega)]
theorem opVal_iff (inp idx : Int) (o : QO) (h : 1 ≤ o.1 ∧ o.1 < 12) : opVal inp idx o = true ↔ OpOk inp idx o := by
  obtain ⟨op, a, b⟩ := o
  simp only at h
  unfold OpOk
  simp only
  by_cases e1 : op = 1
  · subst e1; rw [opVal1, decide_eq_true_iff]; omega
  · by_cases e2 : op = 2
    · subst e2; rw [opVal2, decide_eq_true_iff]; omega
    · by_cases e3 : op = 3
      · subst e3; rw [opVal3, decide_eq_true_iff]; omega
      · by_cases e4 : op = 4
        · subst e4; rw [opVal4, decide_eq_true_iff]; omega
        · by_cases e5 : op = 5
          · subst e5; rw [opVal5, decide_eq_true_iff]; omega
          · rw [opVal6 e1 e2 e3 e4 e5, decide_eq_true_iff]; omega
theorem earlier_any (c : Addr) (idx a : Int) (w : World) (hc : w.cell? c = some (.int .i64 idx)) :
    Calls Try.prog 95 #[.int .i64 a, .pointer (some c)] w fun e w' => e = .returned (.bool (inB idx a)) ∧ w = w' := by
  by_cases h0 : 0 ≤ a
  · by_cases h1 : a < idx
    · have hb : inB idx a = true := decide_eq_true ⟨h0, h1⟩
      have Hb := Lib.hid hb
      clear hb
      go_enter Try.func95, Try.ntmps95
      go_wp2
      go_ret
      exact ⟨by rw [Hb.out]; rfl, rfl⟩
    · have hb : inB idx a = false := decide_eq_false (fun h => h1 h.2)
      have Hb := Lib.hid hb
      have hd : decide (a < idx) = false := decide_eq_false h1
      clear hb
      go_enter Try.func95, Try.ntmps95
      go_wp2
      go_ret
      exact ⟨by rw [Hb.out]; rfl, rfl⟩
  · have hb : inB idx a = false := decide_eq_false (fun h => h0 h.1)
    have Hb := Lib.hid hb
    have hd : decide (0 ≤ a) = false := decide_eq_false h0
    clear hb
    go_enter Try.func95, Try.ntmps95
    go_wp2
    go_ret
    exact ⟨by rw [Hb.out]; rfl, rfl⟩
set_option maxHeartbeats 4000000 in
theorem operands_any (inp idx : Int) (qv : Value) (o : QO) (w : World) :
    Calls Try.prog 79 #[.agg #[.int .i64 inp, qv], .int .i64 idx, i3v o] w fun e w' => e = .returned (.tuple #[.int .i64 (pops o : Int), .bool (opVal inp idx o)]) ∧ Chg [] w w' := by
  obtain ⟨op, a, b⟩ := o
  unfold i3v
  have hc : (((w.alloc (.cells #[.int .i64 inp, qv] 24)).alloc (.cells #[.int .i64 idx] 3)).alloc (.cells #[.int .i64 op, .int .i64 a, .int .i64 b] 119)).cell? ⟨w.heap.size + 1, 0, none⟩ = some (.int .i64 idx) :=
    cell_of_heap ((heap_past _ _ _ (by simp)).trans (heap_at _ _ _ (by simp))) rfl
  have HC := Lib.hid hc
  clear hc
  by_cases e1 : op = 1
  · subst e1
    by_cases h0 : b = 0
    · have B0 : (b == 0) = true := by simp [h0]
      have H0 := Lib.hid h0
      clear h0
      go_enter Try.func79, Try.ntmps79
      go_wp2
      go_quiet (fail)
      go_wp2
      go_ret2
      exact ⟨by rw [show opVal inp idx (1, a, b) = true from by rw [opVal1]; simp only [decide_eq_true_eq]; have q0 := H0.out; omega]; rfl, by first | exact ((((Chg.refl [] w).alloc _).alloc _).alloc _) | exact (((((Chg.refl [] w).alloc _).alloc _).alloc _)).drewN _ | exact ((((((Chg.refl [] w).alloc _).alloc _).alloc _)).drewN _).drewN _⟩
    · have B0 : (b == 0) = false := beq_eq_false_iff_ne.2 h0
      have H0 := Lib.hid h0
      clear h0
      go_enter Try.func79, Try.ntmps79
      go_wp2
      go_quiet (fail)
      go_wp2
      go_ret2
      exact ⟨by rw [show opVal inp idx (1, a, b) = false from by rw [opVal1]; simp only [decide_eq_false_iff_not]; have q0 := H0.out; omega]; rfl, by first | exact ((((Chg.refl [] w).alloc _).alloc _).alloc _) | exact (((((Chg.refl [] w).alloc _).alloc _).alloc _)).drewN _ | exact ((((((Chg.refl [] w).alloc _).alloc _).alloc _)).drewN _).drewN _⟩
  · have b1 : (op == 1) = false := beq_eq_false_iff_ne.2 e1
    by_cases e2 : op = 2
    · subst e2
      by_cases h0 : b = 0
      · have B0 : (b == 0) = true := by simp [h0]
        have H0 := Lib.hid h0
        clear h0
        by_cases h1 : 0 ≤ a
        · have B1 : decide (0 ≤ a) = true := decide_eq_true h1
          have H1 := Lib.hid h1
          clear h1
          by_cases h2 : a < inp
          · have B2 : decide (a < inp) = true := decide_eq_true h2
            have H2 := Lib.hid h2
            clear h2
            go_enter Try.func79, Try.ntmps79
            go_wp2
            go_quiet (fail)
            go_wp2
            go_ret2
            exact ⟨by rw [show opVal inp idx (2, a, b) = true from by rw [opVal2]; simp only [decide_eq_true_eq]; have q0 := H0.out; have q1 := H1.out; have q2 := H2.out; omega]; rfl, by first | exact ((((Chg.refl [] w).alloc _).alloc _).alloc _) | exact (((((Chg.refl [] w).alloc _).alloc _).alloc _)).drewN _ | exact ((((((Chg.refl [] w).alloc _).alloc _).alloc _)).drewN _).drewN _⟩
          · have B2 : decide (a < inp) = false := decide_eq_false h2
            have H2 := Lib.hid h2
            clear h2
            go_enter Try.func79, Try.ntmps79
            go_wp2
            go_quiet (fail)
            go_wp2
            go_ret2
            exact ⟨by rw [show opVal inp idx (2, a, b) = false from by rw [opVal2]; simp only [decide_eq_false_iff_not]; have q0 := H0.out; have q1 := H1.out; have q2 := H2.out; omega]; rfl, by first | exact ((((Chg.refl [] w).alloc _).alloc _).alloc _) | exact (((((Chg.refl [] w).alloc _).alloc _).alloc _)).drewN _ | exact ((((((Chg.refl [] w).alloc _).alloc _).alloc _)).drewN _).drewN _⟩
        · have B1 : decide (0 ≤ a) = false := decide_eq_false h1
          have H1 := Lib.hid h1
          clear h1
          go_enter Try.func79, Try.ntmps79
          go_wp2
          go_quiet (fail)
          go_wp2
          go_ret2
          exact ⟨by rw [show opVal inp idx (2, a, b) = false from by rw [opVal2]; simp only [decide_eq_false_iff_not]; have q0 := H0.out; have q1 := H1.out; omega]; rfl, by first | exact ((((Chg.refl [] w).alloc _).alloc _).alloc _) | exact (((((Chg.refl [] w).alloc _).alloc _).alloc _)).drewN _ | exact ((((((Chg.refl [] w).alloc _).alloc _).alloc _)).drewN _).drewN _⟩
      · have B0 : (b == 0) = false := beq_eq_false_iff_ne.2 h0
        have H0 := Lib.hid h0
        clear h0
        go_enter Try.func79, Try.ntmps79
        go_wp2
        go_quiet (fail)
        go_wp2
        go_ret2
        exact ⟨by rw [show opVal inp idx (2, a, b) = false from by rw [opVal2]; simp only [decide_eq_false_iff_not]; have q0 := H0.out; omega]; rfl, by first | exact ((((Chg.refl [] w).alloc _).alloc _).alloc _) | exact (((((Chg.refl [] w).alloc _).alloc _).alloc _)).drewN _ | exact ((((((Chg.refl [] w).alloc _).alloc _).alloc _)).drewN _).drewN _⟩
    · have b2 : (op == 2) = false := beq_eq_false_iff_ne.2 e2
      by_cases e3 : op = 3
      · subst e3
        by_cases h0 : b = 0
        · have B0 : (b == 0) = true := by simp [h0]
          have H0 := Lib.hid h0
          clear h0
          by_cases h1 : 0 ≤ a ∧ a < idx
          · have B1 : inB idx a = true := decide_eq_true h1
            have H1 := Lib.hid h1
            clear h1
            go_enter Try.func79, Try.ntmps79
            go_wp2_with fail
            refine (earlier_any _ idx a _ HC.out).mono ?_
            rintro e w2 ⟨rfl, rfl⟩
            rw [B1]
            go_wp2
            go_ret2
            exact ⟨by rw [show opVal inp idx (3, a, b) = true from by rw [opVal3]; simp only [decide_eq_true_eq]; have q0 := H0.out; have q1 := H1.out; omega]; rfl, by first | exact ((((Chg.refl [] w).alloc _).alloc _).alloc _) | exact (((((Chg.refl [] w).alloc _).alloc _).alloc _)).drewN _ | exact ((((((Chg.refl [] w).alloc _).alloc _).alloc _)).drewN _).drewN _⟩
          · have B1 : inB idx a = false := decide_eq_false h1
            have H1 := Lib.hid h1
            clear h1
            go_enter Try.func79, Try.ntmps79
            go_wp2_with fail
            refine (earlier_any _ idx a _ HC.out).mono ?_
            rintro e w2 ⟨rfl, rfl⟩
            rw [B1]
            go_wp2
            go_ret2
            exact ⟨by rw [show opVal inp idx (3, a, b) = false from by rw [opVal3]; simp only [decide_eq_false_iff_not]; have q0 := H0.out; have q1 := H1.out; omega]; rfl, by first | exact ((((Chg.refl [] w).alloc _).alloc _).alloc _) | exact (((((Chg.refl [] w).alloc _).alloc _).alloc _)).drewN _ | exact ((((((Chg.refl [] w).alloc _).alloc _).alloc _)).drewN _).drewN _⟩
        · have B0 : (b == 0) = false := beq_eq_false_iff_ne.2 h0
          have H0 := Lib.hid h0
          clear h0
          go_enter Try.func79, Try.ntmps79
          go_wp2
          go_ret2
          exact ⟨by rw [show opVal inp idx (3, a, b) = false from by rw [opVal3]; simp only [decide_eq_false_iff_not]; have q0 := H0.out; omega]; rfl, by first | exact ((((Chg.refl [] w).alloc _).alloc _).alloc _) | exact (((((Chg.refl [] w).alloc _).alloc _).alloc _)).drewN _ | exact ((((((Chg.refl [] w).alloc _).alloc _).alloc _)).drewN _).drewN _⟩
      · have b3 : (op == 3) = false := beq_eq_false_iff_ne.2 e3
        by_cases e4 : op = 4
        · subst e4
          by_cases h0 : a = 0
          · have B0 : (a == 0) = true := by simp [h0]
            have H0 := Lib.hid h0
            clear h0
            by_cases h1 : b = 0
            · have B1 : (b == 0) = true := by simp [h1]
              have H1 := Lib.hid h1
              clear h1
              by_cases h2 : 0 < idx
              · have B2 : decide (0 < idx) = true := decide_eq_true h2
                have H2 := Lib.hid h2
                clear h2
                go_enter Try.func79, Try.ntmps79
                go_wp2
                go_quiet (fail)
                go_wp2
                go_ret2
                exact ⟨by rw [show opVal inp idx (4, a, b) = true from by rw [opVal4]; simp only [decide_eq_true_eq]; have q0 := H0.out; have q1 := H1.out; have q2 := H2.out; omega]; rfl, by first | exact ((((Chg.refl [] w).alloc _).alloc _).alloc _) | exact (((((Chg.refl [] w).alloc _).alloc _).alloc _)).drewN _ | exact ((((((Chg.refl [] w).alloc _).alloc _).alloc _)).drewN _).drewN _⟩
              · have B2 : decide (0 < idx) = false := decide_eq_false h2
                have H2 := Lib.hid h2
                clear h2
                go_enter Try.func79, Try.ntmps79
                go_wp2
                go_quiet (fail)
                go_wp2
                go_ret2
                exact ⟨by rw [show opVal inp idx (4, a, b) = false from by rw [opVal4]; simp only [decide_eq_false_iff_not]; have q0 := H0.out; have q1 := H1.out; have q2 := H2.out; omega]; rfl, by first | exact ((((Chg.refl [] w).alloc _).alloc _).alloc _) | exact (((((Chg.refl [] w).alloc _).alloc _).alloc _)).drewN _ | exact ((((((Chg.refl [] w).alloc _).alloc _).alloc _)).drewN _).drewN _⟩
            · have B1 : (b == 0) = false := beq_eq_false_iff_ne.2 h1
              have H1 := Lib.hid h1
              clear h1
              go_enter Try.func79, Try.ntmps79
              go_wp2
              go_quiet (fail)
              go_wp2
              go_ret2
              exact ⟨by rw [show opVal inp idx (4, a, b) = false from by rw [opVal4]; simp only [decide_eq_false_iff_not]; have q0 := H0.out; have q1 := H1.out; omega]; rfl, by first | exact ((((Chg.refl [] w).alloc _).alloc _).alloc _) | exact (((((Chg.refl [] w).alloc _).alloc _).alloc _)).drewN _ | exact ((((((Chg.refl [] w).alloc _).alloc _).alloc _)).drewN _).drewN _⟩
          · have B0 : (a == 0) = false := beq_eq_false_iff_ne.2 h0
            have H0 := Lib.hid h0
            clear h0
            go_enter Try.func79, Try.ntmps79
            go_wp2
            go_quiet (fail)
            go_wp2
            go_ret2
            exact ⟨by rw [show opVal inp idx (4, a, b) = false from by rw [opVal4]; simp only [decide_eq_false_iff_not]; have q0 := H0.out; omega]; rfl, by first | exact ((((Chg.refl [] w).alloc _).alloc _).alloc _) | exact (((((Chg.refl [] w).alloc _).alloc _).alloc _)).drewN _ | exact ((((((Chg.refl [] w).alloc _).alloc _).alloc _)).drewN _).drewN _⟩
        · have b4 : (op == 4) = false := beq_eq_false_iff_ne.2 e4
          by_cases e5 : op = 5
          · subst e5
            by_cases h0 : 0 ≤ a ∧ a < idx
            · have B0 : inB idx a = true := decide_eq_true h0
              have H0 := Lib.hid h0
              clear h0
              by_cases h1 : 0 ≤ b ∧ b < idx
              · have B1 : inB idx b = true := decide_eq_true h1
                have H1 := Lib.hid h1
                clear h1
                go_enter Try.func79, Try.ntmps79
                go_wp2_with fail
                refine (earlier_any _ idx a _ HC.out).mono ?_
                rintro e w1 ⟨rfl, rfl⟩
                rw [B0]
                go_wp2_with fail
                refine (earlier_any _ idx b _ HC.out).mono ?_
                rintro e w2 ⟨rfl, rfl⟩
                rw [B1]
                go_wp2
                go_ret2
                exact ⟨by rw [show opVal inp idx (5, a, b) = true from by rw [opVal5]; simp only [decide_eq_true_eq]; have q0 := H0.out; have q1 := H1.out; omega]; rfl, by first | exact ((((Chg.refl [] w).alloc _).alloc _).alloc _) | exact (((((Chg.refl [] w).alloc _).alloc _).alloc _)).drewN _ | exact ((((((Chg.refl [] w).alloc _).alloc _).alloc _)).drewN _).drewN _⟩
              · have B1 : inB idx b = false := decide_eq_false h1
                have H1 := Lib.hid h1
                clear h1
                go_enter Try.func79, Try.ntmps79
                go_wp2_with fail
                refine (earlier_any _ idx a _ HC.out).mono ?_
                rintro e w1 ⟨rfl, rfl⟩
                rw [B0]
                go_wp2_with fail
                refine (earlier_any _ idx b _ HC.out).mono ?_
                rintro e w2 ⟨rfl, rfl⟩
                rw [B1]
                go_wp2
                go_ret2
                exact ⟨by rw [show opVal inp idx (5, a, b) = false from by rw [opVal5]; simp only [decide_eq_false_iff_not]; have q0 := H0.out; have q1 := H1.out; omega]; rfl, by first | exact ((((Chg.refl [] w).alloc _).alloc _).alloc _) | exact (((((Chg.refl [] w).alloc _).alloc _).alloc _)).drewN _ | exact ((((((Chg.refl [] w).alloc _).alloc _).alloc _)).drewN _).drewN _⟩
            · have B0 : inB idx a = false := decide_eq_false h0
              have H0 := Lib.hid h0
              clear h0
              go_enter Try.func79, Try.ntmps79
              go_wp2_with fail
              refine (earlier_any _ idx a _ HC.out).mono ?_
              rintro e w1 ⟨rfl, rfl⟩
              rw [B0]
              go_wp2
              go_ret2
              exact ⟨by rw [show opVal inp idx (5, a, b) = false from by rw [opVal5]; simp only [decide_eq_false_iff_not]; have q0 := H0.out; omega]; rfl, by first | exact ((((Chg.refl [] w).alloc _).alloc _).alloc _) | exact (((((Chg.refl [] w).alloc _).alloc _).alloc _)).drewN _ | exact ((((((Chg.refl [] w).alloc _).alloc _).alloc _)).drewN _).drewN _⟩
          · have b5 : (op == 5) = false := beq_eq_false_iff_ne.2 e5
            have E1 := Lib.hid e1
            have E2 := Lib.hid e2
            have E3 := Lib.hid e3
            have E4 := Lib.hid e4
            have E5 := Lib.hid e5
            clear e1 e2 e3 e4 e5
            by_cases h0 : a = 0
            · have B0 : (a == 0) = true := by simp [h0]
              have H0 := Lib.hid h0
              clear h0
              by_cases h1 : b = 0
              · have B1 : (b == 0) = true := by simp [h1]
                have H1 := Lib.hid h1
                clear h1
                go_enter Try.func79, Try.ntmps79
                go_wp2
                go_quiet (fail)
                go_wp2
                go_ret2
                exact ⟨by rw [show opVal inp idx (op, a, b) = true from by rw [opVal6 E1.out E2.out E3.out E4.out E5.out]; simp only [decide_eq_true_eq]; have q0 := H0.out; have q1 := H1.out; omega]; rw [hpopsE E1.out E2.out E3.out E4.out E5.out]; rfl, by first | exact ((((Chg.refl [] w).alloc _).alloc _).alloc _) | exact (((((Chg.refl [] w).alloc _).alloc _).alloc _)).drewN _ | exact ((((((Chg.refl [] w).alloc _).alloc _).alloc _)).drewN _).drewN _⟩
              · have B1 : (b == 0) = false := beq_eq_false_iff_ne.2 h1
                have H1 := Lib.hid h1
                clear h1
                go_enter Try.func79, Try.ntmps79
                go_wp2
                go_quiet (fail)
                go_wp2
                go_ret2
                exact ⟨by rw [show opVal inp idx (op, a, b) = false from by rw [opVal6 E1.out E2.out E3.out E4.out E5.out]; simp only [decide_eq_false_iff_not]; have q0 := H0.out; have q1 := H1.out; omega]; rw [hpopsE E1.out E2.out E3.out E4.out E5.out]; rfl, by first | exact ((((Chg.refl [] w).alloc _).alloc _).alloc _) | exact (((((Chg.refl [] w).alloc _).alloc _).alloc _)).drewN _ | exact ((((((Chg.refl [] w).alloc _).alloc _).alloc _)).drewN _).drewN _⟩
            · have B0 : (a == 0) = false := beq_eq_false_iff_ne.2 h0
              have H0 := Lib.hid h0
              clear h0
              go_enter Try.func79, Try.ntmps79
              go_wp2
              go_quiet (fail)
              go_wp2
              go_ret2
              exact ⟨by rw [show opVal inp idx (op, a, b) = false from by rw [opVal6 E1.out E2.out E3.out E4.out E5.out]; simp only [decide_eq_false_iff_not]; have q0 := H0.out; omega]; rw [hpopsE E1.out E2.out E3.out E4.out E5.out]; rfl, by first | exact ((((Chg.refl [] w).alloc _).alloc _).alloc _) | exact (((((Chg.refl [] w).alloc _).alloc _).alloc _)).drewN _ | exact ((((((Chg.refl [] w).alloc _).alloc _).alloc _)).drewN _).drewN _⟩
end Go.Proofs.Ytggiddhhbilcjaa
