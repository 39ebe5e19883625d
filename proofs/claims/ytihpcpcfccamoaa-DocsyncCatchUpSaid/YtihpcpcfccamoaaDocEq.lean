/- Documents compared by '!='. -/
import Derived.Test.YtihpcpcfccamoaaDocP
import Derived.Laws.StructEq
import Derived.Test.YtihpcpcfccamoaaMod
namespace Go.Proofs.Ytihpcpcfccamoaa
open Go.RowKit
set_option linter.unusedVariables false
set_option linter.unusedSimpArgs false
theorem doc_eq (k : ByteArray) (n : Int) (v : ByteArray) (w : World) : (Op.equalIn 10000 30 (.agg #[.string k, .int .i64 n, .string v]) (.agg #[.string k, .int .i64 n, .string v])).run Try.prog w = .ok true w := by
  have ht : Try.prog.underlying 30 = some (.struct (Try.prog.fieldsOf 30)) := by kernel_rfl
  have hp : Try.prog.stoodInHeld 30 = false := by kernel_rfl
  have hs : Try.prog.underlying 9 = some .string := by kernel_rfl
  have hb : Try.prog.underlying 3 = some (.int .i64) := by kernel_rfl
  have e : (Try.prog.fieldsOf 30).toList = [(Try.prog.fieldsOf 30)[0]!, (Try.prog.fieldsOf 30)[1]!, (Try.prog.fieldsOf 30)[2]!] := by kernel_rfl
  obtain ⟨f0, e0⟩ : ∃ f, (Try.prog.fieldsOf 30)[0]! = f := ⟨_, rfl⟩
  have n0 : ((Try.prog.fieldsOf 30)[0]!.name == "_") = false := by kernel_rfl
  have t0 : (Try.prog.fieldsOf 30)[0]!.type = 9 := by kernel_rfl
  have o0 : (Try.prog.fieldsOf 30)[0]!.offset = 0 := by kernel_rfl
  obtain ⟨f1, e1⟩ : ∃ f, (Try.prog.fieldsOf 30)[1]! = f := ⟨_, rfl⟩
  have n1 : ((Try.prog.fieldsOf 30)[1]!.name == "_") = false := by kernel_rfl
  have t1 : (Try.prog.fieldsOf 30)[1]!.type = 3 := by kernel_rfl
  have o1 : (Try.prog.fieldsOf 30)[1]!.offset = 1 := by kernel_rfl
  obtain ⟨f2, e2⟩ : ∃ f, (Try.prog.fieldsOf 30)[2]! = f := ⟨_, rfl⟩
  have n2 : ((Try.prog.fieldsOf 30)[2]!.name == "_") = false := by kernel_rfl
  have t2 : (Try.prog.fieldsOf 30)[2]!.type = 9 := by kernel_rfl
  have o2 : (Try.prog.fieldsOf 30)[2]!.offset = 2 := by kernel_rfl
  rw [run_equalIn_agg (P := Try.prog) (w := w) 9999 30 _ _ ht hp, e]
  rw [e0] at n0 t0 o0 ⊢
  rw [e1] at n1 t1 o1 ⊢
  rw [e2] at n2 t2 o2 ⊢
  clear e e0 e1 e2 ht hp
  have hks : Try.prog.plainKey 9 = true := by kernel_rfl
  have hkb : Try.prog.plainKey 3 = true := by kernel_rfl
  have m0 : f0.name ≠ "_" := by simpa using n0
  have m1 : f1.name ≠ "_" := by simpa using n1
  have m2 : f2.name ≠ "_" := by simpa using n2
  have q0 := run_part_plain (P := Try.prog) w hks (xs := #[.string k, .int .i64 n, .string v]) (off := 0) (v := .string k) rfl
  have q1 := run_part_plain (P := Try.prog) w hkb (xs := #[.string k, .int .i64 n, .string v]) (off := 1) (v := .int .i64 n) rfl
  have q2 := run_part_plain (P := Try.prog) w hks (xs := #[.string k, .int .i64 n, .string v]) (off := 2) (v := .string v) rfl
  have w1 := fun a => run_equalIn_string (P := Try.prog) w 9998 9 a a hs
  have w2 := run_equalIn_int (P := Try.prog) w 9998 3 .i64 .i64 n n hb
  simp only [Op.eqFields, m0, m1, m2, t0, t1, t2, o0, o1, o2, ne_eq, not_false_eq_true, if_true, Sem.run_bind, q0, q1, q2, w1, w2, Result.andThen_ok, BEq.rfl, Bool.not_true, Bool.false_eq_true, if_false, Sem.run_pure]
theorem doc_neq (k : ByteArray) (n : Int) (v : ByteArray) (w : World) : (binOp .neq 30 (.agg #[.string k, .int .i64 n, .string v]) (.agg #[.string k, .int .i64 n, .string v])).run Try.prog w = .ok (.bool false) w := by
  rw [run_neq_struct, doc_eq]
  rfl
end Go.Proofs.Ytihpcpcfccamoaa
