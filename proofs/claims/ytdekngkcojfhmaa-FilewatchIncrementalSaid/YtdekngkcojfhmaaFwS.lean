/- Events, batches, strings compared; timed. -/
import Derived.Test.YtdekngkcojfhmaaFwR
import Derived.Laws.StructEq
import Derived.Test.YtdekngkcojfhmaaMod
namespace Go.Proofs.Ytdekngkcojfhmaa
open Go.RowKit Go.ChangeMaps Go.MapKept Go.Shelf
set_option linter.unusedVariables false
set_option linter.unusedSimpArgs false
theorem ev_eq (n : Int) (k : ByteArray) (m : Int) (w : World) : (Op.equalIn 10000 33 (.agg #[.int .i64 n, .string k, .int .i64 m]) (.agg #[.int .i64 n, .string k, .int .i64 m])).run Try.prog w = .ok true w := by
  have ht : Try.prog.underlying 33 = some (.struct (Try.prog.fieldsOf 33)) := by kernel_rfl
  have hp : Try.prog.stoodInHeld 33 = false := by kernel_rfl
  have hs : Try.prog.underlying 9 = some .string := by kernel_rfl
  have hb : Try.prog.underlying 3 = some (.int .i64) := by kernel_rfl
  have e : (Try.prog.fieldsOf 33).toList = [(Try.prog.fieldsOf 33)[0]!, (Try.prog.fieldsOf 33)[1]!, (Try.prog.fieldsOf 33)[2]!] := by kernel_rfl
  obtain ⟨f0, e0⟩ : ∃ f, (Try.prog.fieldsOf 33)[0]! = f := ⟨_, rfl⟩
  have n0 : ((Try.prog.fieldsOf 33)[0]!.name == "_") = false := by kernel_rfl
  have t0 : (Try.prog.fieldsOf 33)[0]!.type = 3 := by kernel_rfl
  have o0 : (Try.prog.fieldsOf 33)[0]!.offset = 0 := by kernel_rfl
  obtain ⟨f1, e1⟩ : ∃ f, (Try.prog.fieldsOf 33)[1]! = f := ⟨_, rfl⟩
  have n1 : ((Try.prog.fieldsOf 33)[1]!.name == "_") = false := by kernel_rfl
  have t1 : (Try.prog.fieldsOf 33)[1]!.type = 9 := by kernel_rfl
  have o1 : (Try.prog.fieldsOf 33)[1]!.offset = 1 := by kernel_rfl
  obtain ⟨f2, e2⟩ : ∃ f, (Try.prog.fieldsOf 33)[2]! = f := ⟨_, rfl⟩
  have n2 : ((Try.prog.fieldsOf 33)[2]!.name == "_") = false := by kernel_rfl
  have t2 : (Try.prog.fieldsOf 33)[2]!.type = 3 := by kernel_rfl
  have o2 : (Try.prog.fieldsOf 33)[2]!.offset = 2 := by kernel_rfl
  rw [run_equalIn_agg (P := Try.prog) (w := w) 9999 33 _ _ ht hp, e]
  rw [e0] at n0 t0 o0 ⊢
  rw [e1] at n1 t1 o1 ⊢
  rw [e2] at n2 t2 o2 ⊢
  clear e e0 e1 e2 ht hp
  have hks : Try.prog.plainKey 9 = true := by kernel_rfl
  have hkb : Try.prog.plainKey 3 = true := by kernel_rfl
  have m0 : f0.name ≠ "_" := by simpa using n0
  have m1 : f1.name ≠ "_" := by simpa using n1
  have m2 : f2.name ≠ "_" := by simpa using n2
  have q0 := run_part_plain (P := Try.prog) w hkb (xs := #[.int .i64 n, .string k, .int .i64 m]) (off := 0) (v := .int .i64 n) rfl
  have q1 := run_part_plain (P := Try.prog) w hks (xs := #[.int .i64 n, .string k, .int .i64 m]) (off := 1) (v := .string k) rfl
  have q2 := run_part_plain (P := Try.prog) w hkb (xs := #[.int .i64 n, .string k, .int .i64 m]) (off := 2) (v := .int .i64 m) rfl
  have w1 := fun a => run_equalIn_string (P := Try.prog) w 9998 9 a a hs
  have w2 := fun a => run_equalIn_int (P := Try.prog) w 9998 3 .i64 .i64 a a hb
  simp only [Op.eqFields, m0, m1, m2, t0, t1, t2, o0, o1, o2, ne_eq, not_false_eq_true, if_true, Sem.run_bind, q0, q1, q2, w1, w2, Result.andThen_ok, BEq.rfl, Bool.not_true, Bool.false_eq_true, if_false, Sem.run_pure]
theorem ev_neq (n : Int) (k : ByteArray) (m : Int) (w : World) : (binOp .neq 33 (.agg #[.int .i64 n, .string k, .int .i64 m]) (.agg #[.int .i64 n, .string k, .int .i64 m])).run Try.prog w = .ok (.bool false) w := by
  rw [run_neq_struct, ev_eq]
  rfl

set_option maxHeartbeats 4000000 in
/-- equal events: true -/
theorem eqEvs_any (p q : Nat → Prop) (w : World) (v1 v2 : Value) (E : List FEv) (h1 : EvsP p w v1 E) (h2 : EvsP q w v2 E) :
    Calls Try.prog 18 #[v1, v2] w fun e w' => e = .returned (.bool true) ∧ Chg [] w w' := by
  obtain ⟨a1, cap1, rfl, hml, hcp1⟩ := h1.shape
  obtain ⟨a2, cap2, rfl, _, hcp2⟩ := h2.shape
  have H1 := Lib.hid h1
  have H2 := Lib.hid h2
  unfold maxLen at hml
  clear h1 h2
  go_enter Try.func18, Try.ntmps18
  go_wp2_with fail
  go_loopw [14] (fun i wr => ∃ k : Nat, k ≤ E.length ∧ i = .int .i64 (k : Nat) ∧ Chg [] w wr) (fun i _ => E.length - (intOf i).toNat)
  case atStart => exact ⟨0, by omega, rfl, Chg.refl _ _⟩
  case round =>
    obtain ⟨k, hk, rfl, hc⟩ := hrel
    by_cases hlt : k < E.length
    · obtain ⟨g, off, rfl, hp, c0, c1, c2⟩ := (H1.out.same hc).cells k hlt
      obtain ⟨g2, off2, rfl, hp2, d0, d1, d2⟩ := (H2.out.same hc).cells k hlt
      obtain ⟨⟨t, pa, kd⟩, hr⟩ : ∃ r, E.getD k ev0 = r := ⟨_, rfl⟩
      rw [hr] at c0 c1 c2 d0 d1 d2
      simp only at c0 c1 c2 d0 d1 d2
      have Hc := Lib.hid hc
      have l0 := lt_of_cell d0
      have hne := fun W => ev_neq t pa kd W
      have hk1 : (k : Int) < E.length := by omega
      clear hr hc
      go_wp2_with fail
      go_quiet (fail)
      go_wp2_with fail
      exact ⟨⟨k + 1, by omega, by go_num, (Hc.out.alloc _).drewN _⟩, by simp [intOf]; omega⟩
    · obtain rfl : k = E.length := by omega
      have hk1 : ¬ ((E.length : Int) < E.length) := by omega
      have Hc := Lib.hid hc
      clear hc
      go_wp2_with fail
      go_ret
      exact ⟨rfl, Hc.out⟩
theorem StrsP.shape {p : Nat → Prop} {w : World} {v : Value} {xs : List ByteArray} (h : StrsP p w v xs) : ∃ a cap, v = .slice a xs.length cap ∧ xs.length ≤ maxLen ∧ xs.length ≤ cap := SlR.shape h
set_option maxHeartbeats 4000000 in
theorem eqStrs_any (p q : Nat → Prop) (w : World) (v1 v2 : Value) (E : List ByteArray) (h1 : StrsP p w v1 E) (h2 : StrsP q w v2 E) :
    Calls Try.prog 11 #[v1, v2] w fun e w' => e = .returned (.bool true) ∧ Chg [] w w' := by
  obtain ⟨a1, cap1, rfl, hml, hcp1⟩ := h1.shape
  obtain ⟨a2, cap2, rfl, _, hcp2⟩ := h2.shape
  have H1 := Lib.hid h1
  have H2 := Lib.hid h2
  unfold maxLen at hml
  clear h1 h2
  go_enter Try.func11, Try.ntmps11
  go_wp2_with fail
  go_loopw [14] (fun i wr => ∃ k : Nat, k ≤ E.length ∧ i = .int .i64 (k : Nat) ∧ Chg [] w wr) (fun i _ => E.length - (intOf i).toNat)
  case atStart => exact ⟨0, by omega, rfl, Chg.refl _ _⟩
  case round =>
    obtain ⟨k, hk, rfl, hc⟩ := hrel
    by_cases hlt : k < E.length
    · obtain ⟨g, off, rfl, hp, c0⟩ := (H1.out.same hc).cell k hlt
      obtain ⟨g2, off2, rfl, hp2, d0⟩ := (H2.out.same hc).cell k hlt
      obtain ⟨x, hr⟩ : ∃ r, E.getD k ⟨#[]⟩ = r := ⟨_, rfl⟩
      rw [hr] at c0 d0
      have Hc := Lib.hid hc
      have hk1 : (k : Int) < E.length := by omega
      clear hr hc
      go_wp2_with fail
      exact ⟨⟨k + 1, by omega, by go_num, Hc.out⟩, by simp [intOf]; omega⟩
    · obtain rfl : k = E.length := by omega
      have hk1 : ¬ ((E.length : Int) < E.length) := by omega
      have Hc := Lib.hid hc
      clear hc
      go_wp2_with fail
      go_ret
      exact ⟨rfl, Hc.out⟩
end Go.Proofs.Ytdekngkcojfhmaa
