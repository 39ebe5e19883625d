/- The assembler's Missing where nothing is missing; Split of nothing. -/
import Derived.Test.YtlhngcpodkiafaaPrgM
namespace Go.Proofs.Ytlhngcpodkiafaa
open Go.RowKit Go.ChangeMaps
set_option linter.unusedVariables false
set_option maxRecDepth 100000 in
set_option maxHeartbeats 2000000 in
theorem missing_none (pa bo bi : Nat) (tok : Int) (es : List CE) (n : Nat) (cs : Nat → CQ) (w : World) (h : AsAt w pa bo tok (some (bi, es))) (ht : In64 tok) (hq : ∀ p ∈ es, 0 ≤ p.1 ∧ p.1 < n) (hn1 : n ≤ 1000)
    (hcs : ∀ q, q < n → aget es (q : Int) = some (cs q)) :
    Calls Try.prog 14 #[.pointer (some ⟨pa, 0, none⟩), .int .i64 tok] w fun e w' => e = .returned (.slice none 0 0) ∧ Chg [] w w' := by
  have H := Lib.hid h
  have Hq := Lib.hid hq
  have Hcs := Lib.hid hcs
  clear h hq hcs
  go_enter Try.func14, Try.ntmps14
  go_wp2_with fail
  refine (bounds_any pa bo tok _ w H.out ht (fun p hp => by have := Hq.out p hp; omega)).mono ?_
  rintro e w1 ⟨f, l, rfl, hbd, hc⟩
  have Hc := Lib.hid hc
  obtain ⟨m, hm, hmn⟩ : ∃ m : Nat, max l 0 = m ∧ m ≤ n := by
    rcases hbd.2.2 with ⟨h, _⟩ | ⟨c, h⟩
    · exact ⟨0, by omega, by omega⟩
    · have := Hq.out _ h
      exact ⟨l.toNat, by omega, by simp only at this; omega⟩
  have Hm := Lib.hid hm
  go_upto_region 3 with (fail)
  go_cut [18, 19] (fun v i wx => (v = .int .i64 m ∧ i = .int .i64 0) ∧ wx = w1)
  case first =>
    by_cases hl : l < 0
    · have e0 : (m : Int) = 0 := by have := Hm.out; omega
      have E0 := Lib.hid e0
      clear hm e0 hbd hc
      go_wp2
      go_meet
      exact ⟨⟨by rw [E0.out], rfl⟩, rfl⟩
    · have e0 : (m : Int) = l := by have := Hm.out; omega
      have E0 := Lib.hid e0
      clear hm e0 hbd hc
      go_wp2
      go_meet
      exact ⟨⟨by rw [E0.out], rfl⟩, rfl⟩
  case rest =>
    obtain ⟨⟨rfl, rfl⟩, rfl⟩ := hcut
    clear hm hbd hc
    go_wp2
    go_loopw [7, 19] (fun v i wr => ∃ k : Nat, k ≤ m ∧ v = .slice none 0 0 ∧ i = .int .i64 (k : Nat) ∧ Chg [] w wr) (fun _ i _ => m - (intOf i).toNat)
    case atStart => exact ⟨0, by omega, rfl, rfl, Hc.out⟩
    case round =>
      obtain ⟨k, hk, rfl, rfl, hch⟩ := hrel
      by_cases hlt : k < m
      · have h2 := H.out.same hch
        have c1 : wr.cell? ⟨pa, 0, none⟩ = some (.map (some bo)) := cell_of_heap h2.blk rfl
        have l1 := h2.look ht
        simp only [stv] at l1
        have l2 := h2.look2 (q := (k : Int)) ⟨by omega, by omega⟩ true
        rw [Hcs.out k (by omega)] at l2
        simp only [Option.map_some, Option.getD_some, Option.isSome_some, if_true] at l2
        have Hch := Lib.hid hch
        clear hch h2
        unfold CQ.val at l2
        go_wp2
        go_roundw
        case rel => exact ⟨k + 1, by omega, rfl, by go_num, Hch.out.alloc _⟩
        case measure => simp [intOf]; omega
      · obtain rfl : k = m := by omega
        have Hch := Lib.hid hch
        clear hch
        go_wp2
        go_ret
        exact ⟨rfl, Hch.out⟩
theorem split_none (tok : Int) (s : Nat) (a : Option Addr) (cap : Nat) (w : World) (htok : 0 ≤ tok) (hs : 1 ≤ s) :
    Calls Try.prog 8 #[.int .i64 tok, .slice a 0 cap, .int .i64 s] w fun e w' => e = .returned (.tuple #[.slice (some ⟨w.heap.size + 1, 0, none⟩) 1 1, .int .i64 0]) ∧
      w'.ownsRow w.heap.size 39 4 (.slice (some ⟨w.heap.size + 1, 0, none⟩) 1 1) 1 [.int .i64 tok, .int .i64 0, .bool true, .slice none 0 0] ∧ Chg [] w w' := by
  have h1 : (1 : Int) ≤ (s : Int) := by omega
  go_enter Try.func8, Try.ntmps8
  go_wp2
  go_ret2
  exact ⟨rfl, ⟨rfl, .inr ⟨w.heap.size + 1, 1, _, rfl, by omega, heap_at _ _ _ (by simp), by omega, by unfold maxLen; omega, rfl, rfl⟩⟩, ((Chg.refl [] w).alloc _).alloc _⟩
end Go.Proofs.Ytlhngcpodkiafaa
