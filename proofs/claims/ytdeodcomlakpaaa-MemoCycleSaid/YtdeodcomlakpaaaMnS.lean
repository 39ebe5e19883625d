/- The laws' helpers: keys, numbers, equality of values, the fixed program. -/
import Derived.Test.YtdeodcomlakpaaaMnR
namespace Go.Proofs.Ytdeodcomlakpaaa
open Go.RowKit Go.ChangeMaps Go.MapKept
set_option linter.unusedVariables false
set_option linter.unusedSimpArgs false
set_option maxHeartbeats 400000 in
theorem inputKey_any (n : Int) (w : World) :
    Calls Try.prog 25 #[.int .i64 n] w fun e w' => e = .returned (i3v (0, n, 0)) ∧ Chg [] w w' := by
  go_enter Try.func25, Try.ntmps25
  go_wp2
  exact bodyPost_ret (v := .agg #[.int .i64 0, .int .i64 n, .int .i64 0]) (by simp [results, Try.results25, go_sem]) rfl ⟨rfl, (Chg.refl [] w).alloc _⟩
set_option maxHeartbeats 400000 in
theorem queryKey_any (n : Int) (w : World) :
    Calls Try.prog 26 #[.int .i64 n] w fun e w' => e = .returned (i3v (1, n, 0)) ∧ Chg [] w w' := by
  go_enter Try.func26, Try.ntmps26
  go_wp2
  exact bodyPost_ret (v := .agg #[.int .i64 1, .int .i64 n, .int .i64 0]) (by simp [results, Try.results26, go_sem]) rfl ⟨rfl, (Chg.refl [] w).alloc _⟩
set_option maxHeartbeats 400000 in
theorem number_any (n : Int) (w : World) :
    Calls Try.prog 18 #[.int .i64 n] w fun e w' => ∃ a c, e = .returned (.agg #[.slice a 1 c, .string ⟨#[]⟩]) ∧ Inp.Ints w' (.slice a 1 c) [n] ∧ Chg [] w w' := by
  go_enter Try.func18, Try.ntmps18
  go_wp2
  refine bodyPost_ret (v := .agg #[.slice (some ⟨w.heap.size + 1, 0, none⟩) 1 1, .string ⟨#[]⟩]) (by simp [results, Try.results18, go_sem]) rfl ⟨_, _, rfl, ?_, ((Chg.refl [] w).alloc _).alloc _⟩
  refine Or.inr ⟨w.heap.size + 1, 0, 1, #[.int .i64 n], (0, 0), rfl, by simp, by unfold maxLen; omega, heap_at _ _ _ (by simp), ?_⟩
  intro i hi
  obtain rfl : i = 0 := by simpa using hi
  rfl
theorem take_step {xs ys : List Int} {k : Nat} (hk : k < xs.length) (hl : ys.length = xs.length) (h : xs.take k = ys.take k) (he : xs.getD k 0 = ys.getD k 0) : xs.take (k + 1) = ys.take (k + 1) := by
  have hk' : k < ys.length := by omega
  rw [List.take_succ_eq_append_getElem hk, List.take_succ_eq_append_getElem hk', h]
  simp only [List.getD_eq_getElem?_getD, List.getElem?_eq_getElem hk, List.getElem?_eq_getElem hk', Option.getD_some] at he
  rw [he]
theorem ret_bool {a b : Bool} (h : a = b) : Ending.returned (.bool a) = .returned (.bool b) := by rw [h]
set_option maxHeartbeats 1000000 in
theorem equalRef_any (w : World) (v1 v2 : Value) (xs ys : List Int) (h1 : Inp.Ints w v1 xs) (h2 : Inp.Ints w v2 ys) :
    Calls Try.prog 50 #[v1, v2] w fun e w' => e = .returned (.bool (decide (xs = ys))) ∧ w' = w := by
  obtain ⟨a1, c1, rfl⟩ := h1.shape
  obtain ⟨a2, c2, rfl⟩ := h2.shape
  have hm : xs.length ≤ maxLen := by
    rcases h1.cells with ⟨_, rfl⟩ | ⟨_, _, _, _, h, _⟩
    · simp
    · exact h
  unfold maxLen at hm
  by_cases hl : xs.length = ys.length
  · have hl1 : (xs.length : Int) = ys.length := by omega
    have H1 := Lib.hid h1
    have H2 := Lib.hid h2
    have Hl := Lib.hid hl
    clear h1 h2 hl
    go_enter Try.func50, Try.ntmps50
    go_wp2
    go_loopw [14] (fun i wr => ∃ k : Nat, k ≤ xs.length ∧ i = .int .i64 (k : Nat) ∧ wr = w ∧ xs.take k = ys.take k) (fun i _ => xs.length - (intOf i).toNat)
    case atStart => exact ⟨0, by omega, rfl, rfl, rfl⟩
    case round =>
      obtain ⟨k, hk, rfl, rfl, ht⟩ := hrel
      have Ht := Lib.hid ht
      clear ht
      by_cases hlt : k < xs.length
      · have hlt2 : k < ys.length := by have := Hl.out; omega
        have hk1 : (k : Int) < xs.length := by omega
        have hk2 : (k : Int) < ys.length := by omega
        rcases H1.out.cells with ⟨h, rfl⟩ | ⟨g1, o1, cc1, h, _, hc1⟩
        · simp at hlt
        simp only [Value.slice.injEq, true_and] at h
        obtain ⟨rfl, rfl⟩ := h
        rcases H2.out.cells with ⟨h, rfl⟩ | ⟨g2, o2, cc2, h, _, hc2⟩
        · simp at hlt2
        simp only [Value.slice.injEq, true_and] at h
        obtain ⟨rfl, rfl⟩ := h
        have q1 := hc1 k hlt
        have q2 := hc2 k hlt2
        clear hc1 hc2
        obtain ⟨x, hx⟩ : ∃ x, xs.getD k 0 = x := ⟨_, rfl⟩
        obtain ⟨y, hy⟩ : ∃ y, ys.getD k 0 = y := ⟨_, rfl⟩
        rw [hx] at q1
        rw [hy] at q2
        have Hx := Lib.hid hx
        have Hy := Lib.hid hy
        clear hx hy
        by_cases he : x = y
        · subst he
          go_wp2
          go_roundw
          case rel => exact ⟨k + 1, by omega, by go_num, trivial, take_step hlt Hl.out.symm Ht.out (by rw [Hx.out, Hy.out])⟩
          case measure => simp [intOf]; omega
        · have he1 : (x != y) = true := by simpa using he
          have He := Lib.hid he
          clear he
          go_wp2
          go_ret
          exact ⟨ret_bool (decide_eq_false (fun e => He.out (by rw [← Hx.out, ← Hy.out, e]))).symm, rfl⟩
      · have hk1 : ¬ (k : Int) < xs.length := by omega
        go_wp2
        go_ret
        exact ⟨ret_bool (decide_eq_true (by have h3 := Ht.out; rwa [List.take_of_length_le (by omega), List.take_of_length_le (by have := Hl.out; omega)] at h3)).symm, rfl⟩
  · have hl1 : ((xs.length : Int) != ys.length) = true := by simp; omega
    have Hl := Lib.hid hl
    clear hl h1 h2
    go_enter Try.func50, Try.ntmps50
    go_wp2
    go_ret
    exact ⟨ret_bool (decide_eq_false (fun e => Hl.out (by rw [e]))).symm, rfl⟩
set_option maxHeartbeats 1000000 in
theorem equalValues_any (w : World) (v1 v2 : Value) (xs ys : List Int) (h1 : Inp.Ints w v1 xs) (h2 : Inp.Ints w v2 ys) :
    Calls Try.prog 20 #[.agg #[v1, .string ⟨#[]⟩], .agg #[v2, .string ⟨#[]⟩]] w fun e w' => e = .returned (.bool (decide (xs = ys))) ∧ Chg [] w w' := by
  obtain ⟨a1, c1, rfl⟩ := h1.shape
  obtain ⟨a2, c2, rfl⟩ := h2.shape
  have hc : Chg [] w ((w.alloc (.cells #[.slice a1 xs.length c1, .string ⟨#[]⟩] 31)).alloc (.cells #[.slice a2 ys.length c2, .string ⟨#[]⟩] 31)) := ((Chg.refl [] w).alloc _).alloc _
  have Hcall := Lib.hid (equalRef_any _ _ _ xs ys (h1.same hc) (h2.same hc))
  have Hc := Lib.hid hc
  clear h1 h2 hc
  go_enter Try.func20, Try.ntmps20
  go_wp2_with fail
  refine Hcall.out.mono ?_
  rintro e w' ⟨rfl, rfl⟩
  go_wp2
  go_ret
  exact ⟨rfl, Hc.out⟩
end Go.Proofs.Ytdeodcomlakpaaa
