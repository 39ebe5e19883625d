/- docsync.validate at one document. -/
import Derived.Test.YtihpcpcfccamoaaDocF
namespace Go.Proofs.Ytihpcpcfccamoaa
open Go.RowKit
set_option linter.unusedVariables false
set_option linter.unusedSimpArgs false
set_option maxHeartbeats 1000000 in
theorem tooLong_any (w : World) (nm text : ByteArray) (ver : Int) (h1 : nm.size ≤ 60) (h2 : text.size ≤ 2000) :
    Calls Try.prog 26 #[.agg #[.string nm, .int .i64 ver, .string text]] w fun e w' => e = .returned (.bool false) ∧ Chg [] w w' := by
  have h3 : ¬ (60 : Int) < (nm.size : Int) := by omega
  have h4 : ¬ (2000 : Int) < (text.size : Int) := by omega
  go_enter Try.func26, Try.ntmps26
  go_wp2_with fail
  go_ret
  exact ⟨rfl, (Chg.refl [] w).alloc _⟩
set_option maxHeartbeats 1000000 in
theorem malformed_any (w : World) (nm text : ByteArray) (ver : Int) (h1 : (nm.toList == []) = false) (h2 : 0 ≤ ver) (h3 : ver ≤ 2147483647) :
    Calls Try.prog 27 #[.agg #[.string nm, .int .i64 ver, .string text]] w fun e w' => e = .returned (.bool false) ∧ Chg [] w w' := by
  have h4 : ¬ ver < 0 := by omega
  have h5 : ¬ (2147483647 : Int) < ver := by omega
  go_enter Try.func27, Try.ntmps27
  go_wp2_with fail
  go_ret
  exact ⟨rfl, (Chg.refl [] w).alloc _⟩
set_option maxHeartbeats 1000000 in
theorem idxDoc_one (w : World) (g cap n : Nat) (nm text : ByteArray) (ver : Int) (h0 : w.cell? ⟨g, 0, none⟩ = some (.string nm)) (h1 : w.cell? ⟨g, 1, none⟩ = some (.int .i64 ver)) (h2 : w.cell? ⟨g, 2, none⟩ = some (.string text))
    (hn : ∀ args w, (callFunc n args).run Try.prog w = .ok (.enter n args) w)
    (hf : ∀ W, Calls Try.prog n #[.agg #[.string nm, .int .i64 ver, .string text]] W fun e w' => e = .returned (.bool false) ∧ Chg [] W w') :
    Calls Try.prog 38 #[.slice (some ⟨g, 0, none⟩) 1 cap, .func (.func n) #[] #[]] w fun e w' => e = .returned (.int .i64 (-1)) ∧ Chg [] w w' := by
  have Hf := Lib.hid hf
  clear hf
  go_enter Try.func38, Try.ntmps38
  go_wp2_with fail
  go_loopw [8] (fun jj wr => ∃ k : Nat, k ≤ 1 ∧ jj = .int .i64 (k : Nat) ∧ Chg [] w wr) (fun jj _ => 1 - (intOf jj).toNat)
  case atStart => exact ⟨0, by omega, rfl, Chg.refl _ _⟩
  case round =>
    obtain ⟨k, hk, rfl, hc⟩ := hrel
    rcases (by omega : k = 0 ∨ k = 1) with rfl | rfl
    · have lt := lt_of_cell h0
      have p0 := (hc.cell lt (by simp)).trans h0
      have p1 := (hc.cell (p := ⟨g, 1, none⟩) lt (by simp)).trans h1
      have p2 := (hc.cell (p := ⟨g, 2, none⟩) lt (by simp)).trans h2
      go_wp2_with fail
      refine (Hf.out _).mono ?_
      rintro e w1 ⟨rfl, c1⟩
      go_wp2_with fail
      exact ⟨⟨1, by omega, rfl, hc.trans c1⟩, by simp [intOf]⟩
    · go_wp2_with fail
      go_ret
      exact ⟨rfl, hc⟩
theorem cfDoc_one (w : World) (g cap n : Nat) (nm text : ByteArray) (ver : Int) (h0 : w.cell? ⟨g, 0, none⟩ = some (.string nm)) (h1 : w.cell? ⟨g, 1, none⟩ = some (.int .i64 ver)) (h2 : w.cell? ⟨g, 2, none⟩ = some (.string text))
    (hn : ∀ args w, (callFunc n args).run Try.prog w = .ok (.enter n args) w)
    (hf : ∀ W, Calls Try.prog n #[.agg #[.string nm, .int .i64 ver, .string text]] W fun e w' => e = .returned (.bool false) ∧ Chg [] W w') :
    Calls Try.prog 28 #[.slice (some ⟨g, 0, none⟩) 1 cap, .func (.func n) #[] #[]] w fun e w' => e = .returned (.bool false) ∧ Chg [] w w' := by
  go_enter Try.func28, Try.ntmps28
  go_wp2_with fail
  refine (idxDoc_one w g cap n nm text ver h0 h1 h2 hn hf).mono ?_
  rintro e w1 ⟨rfl, c1⟩
  go_wp2_with fail
  go_ret
  exact ⟨rfl, c1⟩
theorem cfDoc_none (w : World) (a : Option Addr) (cap : Nat) (f : Value) :
    Calls Try.prog 28 #[.slice a 0 cap, f] w fun e w' => e = .returned (.bool false) ∧ Chg [] w w' := by
  go_enter Try.func28, Try.ntmps28
  go_wp2
  refine wp_loop_once ?_
  go_wp2
  go_ret
  exact ⟨rfl, Chg.refl _ _⟩
set_option maxHeartbeats 2000000 in
theorem validate_one (w : World) (g cap : Nat) (nm text : ByteArray) (ver : Int) (h0 : w.cell? ⟨g, 0, none⟩ = some (.string nm)) (h1 : w.cell? ⟨g, 1, none⟩ = some (.int .i64 ver)) (h2 : w.cell? ⟨g, 2, none⟩ = some (.string text)) (hcap : 1 ≤ cap)
    (k1 : nm.size ≤ 60) (k2 : text.size ≤ 2000) (k3 : (nm.toList == []) = false) (k4 : 0 ≤ ver) (k5 : ver ≤ 2147483647) :
    Calls Try.prog 17 #[.slice (some ⟨g, 0, none⟩) 1 cap] w fun e w' => e = .returned (.int .i64 0) ∧ Chg [] w w' := by
  have lt := lt_of_cell h0
  go_enter Try.func17, Try.ntmps17
  go_wp2_with fail
  refine (cfDoc_one w g cap 26 nm text ver h0 h1 h2 (by go_simp) (fun W => tooLong_any W nm text ver k1 k2)).mono ?_
  rintro e w1 ⟨rfl, c1⟩
  have p0 := (c1.cell lt (by simp)).trans h0
  have p1 := (c1.cell (p := ⟨g, 1, none⟩) lt (by simp)).trans h1
  have p2 := (c1.cell (p := ⟨g, 2, none⟩) lt (by simp)).trans h2
  go_wp2_with fail
  refine (cfDoc_one w1 g cap 27 nm text ver p0 p1 p2 (by go_simp) (fun W => malformed_any W nm text ver k3 k4 k5)).mono ?_
  rintro e w2 ⟨rfl, c2⟩
  have hc2 := c1.trans c2
  have q0 := (hc2.cell lt (by simp)).trans h0
  have q1 := (hc2.cell (p := ⟨g, 1, none⟩) lt (by simp)).trans h1
  have q2 := (hc2.cell (p := ⟨g, 2, none⟩) lt (by simp)).trans h2
  have lt2 := lt_of_cell q0
  go_wp2_with fail
  go_loopw [22] (fun jj wr => ∃ k : Nat, k ≤ 1 ∧ jj = .int .i64 (k : Nat) ∧ Chg [] w2 wr) (fun jj _ => 1 - (intOf jj).toNat)
  case atStart => exact ⟨0, by omega, rfl, Chg.refl _ _⟩
  case round =>
    obtain ⟨k, hk, rfl, hc⟩ := hrel
    rcases (by omega : k = 0 ∨ k = 1) with rfl | rfl
    · have r0 := (hc.cell lt2 (by simp)).trans q0
      have r1 := (hc.cell (p := ⟨g, 1, none⟩) lt2 (by simp)).trans q1
      have r2 := (hc.cell (p := ⟨g, 2, none⟩) lt2 (by simp)).trans q2
      go_wp2_with fail
      refine (cfDoc_none _ _ _ _).mono ?_
      rintro e w3 ⟨rfl, c3⟩
      go_wp2_with fail
      exact ⟨⟨1, by omega, rfl, (hc.alloc _).trans c3⟩, by simp [intOf]⟩
    · go_wp2_with fail
      go_ret
      exact ⟨rfl, hc2.trans hc⟩
end Go.Proofs.Ytihpcpcfccamoaa
