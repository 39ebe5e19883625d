/- The assembler's Result. -/
import Derived.Test.YtlhngcpodkiafaaPrgH
namespace Go.Proofs.Ytlhngcpodkiafaa
open Go.RowKit Go.ChangeMaps
set_option linter.unusedVariables false
set_option maxRecDepth 100000 in
set_option maxHeartbeats 1000000 in
theorem result_no (pa bo : Nat) (tok : Int) (st : Option (Nat × List CE)) (w : World) (h : AsAt w pa bo tok st) (ht : In64 tok) (hq : ∀ p ∈ ste st, 0 ≤ p.1 ∧ p.1 < 1000) (hno : ∀ f l, Bd (ste st) f l → f < 0 ∨ ((ste st).length : Int) ≠ f + 1) :
    Calls Try.prog 10 #[.pointer (some ⟨pa, 0, none⟩), .int .i64 tok] w fun e w' => e = .returned (.tuple #[.slice none 0 0, .bool false]) ∧ Chg [] w w' := by
  have H := Lib.hid h
  have Hno := Lib.hid hno
  have Hq := Lib.hid hq
  clear h hno hq
  go_enter Try.func10, Try.ntmps10
  go_wp2_with fail
  refine (bounds_any pa bo tok st w H.out ht Hq.out).mono ?_
  rintro e w1 ⟨f, l, rfl, hbd, hc⟩
  have hor := Hno.out f l hbd
  have Hc := Lib.hid hc
  have h1 := H.out.same hc
  have Hbd := Lib.hid hbd
  clear hc hbd
  by_cases hf : f < 0
  · clear hor h1
    go_wp2
    go_ret2
    exact ⟨rfl, Hc.out⟩
  · have hor' : ((ste st).length : Int) ≠ f + 1 := hor.resolve_left hf
    have hf0 : 0 ≤ f := by omega
    clear hor hf
    cases st with
    | none =>
      exfalso
      rcases Hbd.out.1 with ⟨h, _⟩ | ⟨c, h, _⟩
      · omega
      · simp [ste] at h
    | some s =>
      obtain ⟨bi, es⟩ := s
      have c0 : w1.cell? ⟨pa, 0, none⟩ = some (.map (some bo)) := cell_of_heap h1.blk rfl
      have hl := h1.look ht
      simp only [stv] at hl
      have hlen := h1.2.2.1.len Try.underlying53 3
      have hfl : f < 1000 := by
        rcases Hbd.out.1 with ⟨h, _⟩ | ⟨c, h, _⟩
        · omega
        · exact (Hq.out _ h).2
      have hle : (cvals tok es).length = es.length := by simp [cvals]
      rw [hle] at hlen
      have hne : ((es.length : Int) != f + 1) = true := by simpa [ste] using hor'
      clear h1 hor' hle
      go_wp2
      go_ret2
      exact ⟨rfl, Hc.out⟩
end Go.Proofs.Ytlhngcpodkiafaa
