/- Equality of keys (a struct of three ints), as the model runs it. -/
import Derived.Test.YtggiddhhbilcjaaMem
import Derived.Test.YtggiddhhbilcjaaRows
namespace Go.Proofs.Ytggiddhhbilcjaa
open Go.RowKit
set_option linter.unusedVariables false
theorem key_eq (a1 a2 a3 b1 b2 b3 : Int) (w : World) : (Op.equalIn 10000 43 (.agg #[.int .i64 a1, .int .i64 a2, .int .i64 a3]) (.agg #[.int .i64 b1, .int .i64 b2, .int .i64 b3])).run Try.prog w = .ok (decide (a1 = b1 ∧ a2 = b2 ∧ a3 = b3)) w := by
  have ht : Try.prog.underlying 43 = some (.struct (Try.prog.fieldsOf 43)) := by kernel_rfl
  have hp : Try.prog.stoodInHeld 43 = false := by kernel_rfl
  have hs : Try.prog.underlying 3 = some (.int .i64) := by kernel_rfl
  have e : (Try.prog.fieldsOf 43).toList = [(Try.prog.fieldsOf 43)[0]!, (Try.prog.fieldsOf 43)[1]!, (Try.prog.fieldsOf 43)[2]!] := by kernel_rfl
  obtain ⟨f0, e0⟩ : ∃ f, (Try.prog.fieldsOf 43)[0]! = f := ⟨_, rfl⟩
  have n0 : ((Try.prog.fieldsOf 43)[0]!.name == "_") = false := by kernel_rfl
  have t0 : (Try.prog.fieldsOf 43)[0]!.type = 3 := by kernel_rfl
  have o0 : (Try.prog.fieldsOf 43)[0]!.offset = 0 := by kernel_rfl
  obtain ⟨f1, e1⟩ : ∃ f, (Try.prog.fieldsOf 43)[1]! = f := ⟨_, rfl⟩
  have n1 : ((Try.prog.fieldsOf 43)[1]!.name == "_") = false := by kernel_rfl
  have t1 : (Try.prog.fieldsOf 43)[1]!.type = 3 := by kernel_rfl
  have o1 : (Try.prog.fieldsOf 43)[1]!.offset = 1 := by kernel_rfl
  obtain ⟨f2, e2⟩ : ∃ f, (Try.prog.fieldsOf 43)[2]! = f := ⟨_, rfl⟩
  have n2 : ((Try.prog.fieldsOf 43)[2]!.name == "_") = false := by kernel_rfl
  have t2 : (Try.prog.fieldsOf 43)[2]!.type = 3 := by kernel_rfl
  have o2 : (Try.prog.fieldsOf 43)[2]!.offset = 2 := by kernel_rfl
  rw [run_equalIn_agg (P := Try.prog) (w := w) 9999 43 _ _ ht hp, e]
  rw [e0] at n0 t0 o0 ⊢
  rw [e1] at n1 t1 o1 ⊢
  rw [e2] at n2 t2 o2 ⊢
  clear e e0 e1 e2 ht hp
  have hks : Try.prog.plainKey 3 = true := by kernel_rfl
  have m0 : f0.name ≠ "_" := by simpa using n0
  have m1 : f1.name ≠ "_" := by simpa using n1
  have m2 : f2.name ≠ "_" := by simpa using n2
  have q0 := run_part_plain (P := Try.prog) w hks (xs := #[.int .i64 a1, .int .i64 a2, .int .i64 a3]) (off := 0) (v := .int .i64 a1) rfl
  have q1 := run_part_plain (P := Try.prog) w hks (xs := #[.int .i64 a1, .int .i64 a2, .int .i64 a3]) (off := 1) (v := .int .i64 a2) rfl
  have q2 := run_part_plain (P := Try.prog) w hks (xs := #[.int .i64 a1, .int .i64 a2, .int .i64 a3]) (off := 2) (v := .int .i64 a3) rfl
  have p0 := run_part_plain (P := Try.prog) w hks (xs := #[.int .i64 b1, .int .i64 b2, .int .i64 b3]) (off := 0) (v := .int .i64 b1) rfl
  have p1 := run_part_plain (P := Try.prog) w hks (xs := #[.int .i64 b1, .int .i64 b2, .int .i64 b3]) (off := 1) (v := .int .i64 b2) rfl
  have p2 := run_part_plain (P := Try.prog) w hks (xs := #[.int .i64 b1, .int .i64 b2, .int .i64 b3]) (off := 2) (v := .int .i64 b3) rfl
  have w1 := fun a b => run_equalIn_int (P := Try.prog) w 9998 3 .i64 .i64 a b hs
  by_cases h1 : a1 = b1
  · by_cases h2 : a2 = b2
    · by_cases h3 : a3 = b3
      · subst h1 h2 h3
        simp only [Op.eqFields, m0, m1, m2, t0, t1, t2, o0, o1, o2, ne_eq, not_false_eq_true, if_true, Sem.run_bind, q0, q1, q2, w1, Result.andThen_ok, BEq.rfl, Bool.not_true, Bool.false_eq_true, if_false, Sem.run_pure]
        simp
      · subst h1 h2
        have hb3 : (a3 == b3) = false := beq_eq_false_iff_ne.2 h3
        simp only [Op.eqFields, m0, m1, m2, t0, t1, t2, o0, o1, o2, ne_eq, not_false_eq_true, if_true, Sem.run_bind, q0, q1, q2, p0, p1, p2, w1, Result.andThen_ok, BEq.rfl, hb3, Bool.not_true, Bool.not_false, Bool.false_eq_true, if_false, Sem.run_pure]
        simp [h3]
    · subst h1
      have hb2 : (a2 == b2) = false := beq_eq_false_iff_ne.2 h2
      simp only [Op.eqFields, m0, m1, t0, t1, o0, o1, ne_eq, not_false_eq_true, if_true, Sem.run_bind, q0, q1, p0, p1, w1, Result.andThen_ok, BEq.rfl, hb2, Bool.not_true, Bool.not_false, Bool.false_eq_true, if_false, Sem.run_pure]
      simp [h2]
  · have hb1 : (a1 == b1) = false := beq_eq_false_iff_ne.2 h1
    simp only [Op.eqFields, m0, t0, o0, ne_eq, not_false_eq_true, if_true, Sem.run_bind, q0, p0, w1, Result.andThen_ok, hb1, Bool.not_false, Sem.run_pure]
    simp [h1]
theorem key_eql (a1 a2 a3 b1 b2 b3 : Int) (w : World) : (binOp .eql 43 (.agg #[.int .i64 a1, .int .i64 a2, .int .i64 a3]) (.agg #[.int .i64 b1, .int .i64 b2, .int .i64 b3])).run Try.prog w = .ok (.bool (decide (a1 = b1 ∧ a2 = b2 ∧ a3 = b3))) w := by
  rw [run_eql_struct, key_eq]
  rfl
theorem key_neq (a1 a2 a3 b1 b2 b3 : Int) (w : World) : (binOp .neq 43 (.agg #[.int .i64 a1, .int .i64 a2, .int .i64 a3]) (.agg #[.int .i64 b1, .int .i64 b2, .int .i64 b3])).run Try.prog w = .ok (.bool (!decide (a1 = b1 ∧ a2 = b2 ∧ a3 = b3))) w := by
  rw [run_neq_struct, key_eq]
  rfl
theorem key_guard : Try.prog.eqGuardType Try.prog.depth 43 = false := by kernel_rfl
end Go.Proofs.Ytggiddhhbilcjaa
