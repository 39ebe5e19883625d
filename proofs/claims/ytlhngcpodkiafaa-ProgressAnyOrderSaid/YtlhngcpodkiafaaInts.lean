/- Slices of ints, read (the array is a row of ints); slices.Equal, slices.Clone. -/
import Derived.Test.YtlhngcpodkiafaaBase
import Derived.Test.YtlhngcpodkiafaaRows
import Derived.Deep.QuietTactic
import Derived.BigQuiet
import Derived.Deep.RegionHeld3
namespace Go.Proofs.Ytlhngcpodkiafaa
open Go.RowKit
theorem take_succ_eq {α : Type} [Inhabited α] {xs ys : List α} {k : Nat} (hk : k < xs.length) (hl : ys.length = xs.length) (h : xs.take k = ys.take k) (d : α) (he : xs.getD k d = ys.getD k d) : xs.take (k + 1) = ys.take (k + 1) := by
  have hk' : k < ys.length := by omega
  rw [List.take_succ_eq_append_getElem hk, List.take_succ_eq_append_getElem hk', h]
  simp only [List.getD_eq_getElem?_getD, List.getElem?_eq_getElem hk, List.getElem?_eq_getElem hk', Option.getD_some] at he
  rw [he]
theorem ret_bool {a b : Bool} (h : a = b) : Ending.returned (.bool a) = .returned (.bool b) := by rw [h]
theorem ret_int {k : IntKind} {a b : Int} (h : a = b) : Ending.returned (.int k a) = .returned (.int k b) := by rw [h]

/-- a slice of ints, read -/
def Ints (w : World) (v : Value) (xs : List Int) : Prop := Sl 3 w v (xs.map (Value.int .i64))
theorem Ints.cells {w : World} {v : Value} {xs : List Int} (h : Ints w v xs) : (v = .slice none 0 0 ∧ xs = []) ∨ ∃ g off cap, v = .slice (some ⟨g, off, none⟩) xs.length cap ∧ xs.length ≤ maxLen ∧ ∀ i, i < xs.length → w.cell? ⟨g, off + i, none⟩ = some (.int .i64 (xs.getD i 0)) := by
  rcases h with ⟨h1, h2⟩ | ⟨g, off, cap, c, fr, h1, h2, h3, h4, h5⟩
  · exact Or.inl ⟨h1, by simpa using h2⟩
  · refine Or.inr ⟨g, off, cap, by simpa using h1, by simp at h2; omega, fun i hi => cell_of_heap h4 ?_⟩
    rw [h5 i (by simpa using hi)]
    simp [List.getElem?_eq_getElem hi]

theorem Ints.shape {w : World} {v : Value} {xs : List Int} (h : Ints w v xs) : ∃ a cap, v = .slice a xs.length cap := by
  rcases h.cells with ⟨rfl, rfl⟩ | ⟨g, off, cap, rfl, _⟩
  · exact ⟨none, 0, rfl⟩
  · exact ⟨_, cap, rfl⟩
theorem Ints.kept {w w' : World} {v : Value} {xs : List Int} {S : List Nat} (h : Ints w v xs) (hc : Chg S w w') (hS : ∀ k ∈ S, NotE 3 w k) : Ints w' v xs := Sl.kept h hc hS
theorem Ints.same {w w' : World} {v : Value} {xs : List Int} (h : Ints w v xs) (hc : Chg [] w w') : Ints w' v xs := Sl.kept h hc (by simp)

set_option maxHeartbeats 400000 in
theorem equal_same (w : World) (g1 o1 c1 g2 o2 n2 c2 : Nat) (xs ys : List Int) (hx : xs.length ≤ maxLen) (hn : n2 = xs.length) (hy : ys.length = xs.length)
   (h1 : ∀ i, i < xs.length → w.cell? ⟨g1, o1 + i, none⟩ = some (.int .i64 (xs.getD i 0))) (h2 : ∀ i, i < xs.length → w.cell? ⟨g2, o2 + i, none⟩ = some (.int .i64 (ys.getD i 0))) :
    Calls Try.prog 18 #[.slice (some ⟨g1, o1, none⟩) xs.length c1, .slice (some ⟨g2, o2, none⟩) n2 c2] w fun e w' => ∃ n, e = .returned (.bool (decide (xs = ys))) ∧ w' = w.drewN n := by
  subst hn
  unfold maxLen at hx
  have Hy := Lib.hid hy
  clear hy
  go_enter Try.func18, Try.ntmps18
  go_wp2
  go_loopw [13] (fun i wr => ∃ k n, k ≤ xs.length ∧ i = .int .i64 (k : Nat) ∧ wr = w.drewN n ∧ xs.take k = ys.take k) (fun i _ => xs.length - (intOf i).toNat)
  case atStart => exact ⟨0, 0, by omega, rfl, rfl, rfl⟩
  case round =>
    obtain ⟨k, n, hk, rfl, rfl, ht⟩ := hrel
    by_cases hlt : k < xs.length
    · have q1 := h1 k hlt
      have q2 := h2 k hlt
      clear h1 h2
      have Ht := Lib.hid ht
      clear ht
      obtain ⟨x, hx⟩ : ∃ x, xs.getD k 0 = x := ⟨_, rfl⟩
      obtain ⟨y, hy⟩ : ∃ y, ys.getD k 0 = y := ⟨_, rfl⟩
      rw [hx] at q1
      rw [hy] at q2
      have Hx := Lib.hid hx
      have Hy' := Lib.hid hy
      clear hx hy
      by_cases he : x = y
      · subst he
        go_wp2
        go_quiet (fail)
        go_wp2
        go_roundw
        case rel => exact ⟨k + 1, n + _, by omega, by go_num, rfl, take_succ_eq hlt Hy.out Ht.out 0 (by rw [Hx.out, Hy'.out])⟩
        case measure => simp [intOf]; omega
      · have he1 : (x != y) = true := by simpa using he
        have He := Lib.hid he
        clear he
        go_wp2
        go_quiet (fail)
        go_wp2
        go_ret
        exact ⟨_, ret_bool (decide_eq_false (fun e => He.out (by rw [← Hx.out, ← Hy'.out, e]))).symm, World.drewN_drewN _ _ _⟩
    · go_wp2
      go_ret
      exact ⟨_, ret_bool (decide_eq_true (by have h3 := ht; rwa [List.take_of_length_le (by omega), List.take_of_length_le (by have := Hy.out; omega)] at h3)).symm, rfl⟩
/-- slices of different lengths, or of none -/
theorem equal_lens (w : World) (a1 a2 : Option Addr) (n1 c1 n2 c2 : Nat) (hn : (n1 : Int) ≠ n2) :
    Calls Try.prog 18 #[.slice a1 n1 c1, .slice a2 n2 c2] w fun e w' => e = .returned (.bool false) ∧ w' = w := by
  have h : ((n1 : Int) != n2) = true := by simpa using hn
  clear hn
  go_enter Try.func18, Try.ntmps18
  go_wp2
  go_ret
  exact ⟨rfl, rfl⟩
theorem equal_zero (w : World) (a1 a2 : Option Addr) (c1 c2 : Nat) :
    Calls Try.prog 18 #[.slice a1 0 c1, .slice a2 0 c2] w fun e w' => e = .returned (.bool true) ∧ w' = w := by
  go_enter Try.func18, Try.ntmps18
  go_wp2
  go_loop [13] (fun i => i = .int .i64 0) (fun i => 0)
  case atStart => rfl
  case round =>
    obtain rfl := hrel
    go_wp2
    go_ret
    exact ⟨rfl, rfl⟩
/-- slices.Equal at ints -/
theorem slicesEqual (w : World) (v1 v2 : Value) (xs ys : List Int) (h1 : Ints w v1 xs) (h2 : Ints w v2 ys) :
    Calls Try.prog 18 #[v1, v2] w fun e w' => ∃ n, e = .returned (.bool (decide (xs = ys))) ∧ w' = w.drewN n := by
  rcases h1.cells with ⟨rfl, rfl⟩ | ⟨g1, o1, c1, rfl, hl1, k1⟩ <;> rcases h2.cells with ⟨rfl, rfl⟩ | ⟨g2, o2, c2, rfl, hl2, k2⟩
  · exact (equal_zero w _ _ _ _).mono fun e w' ⟨he, hw⟩ => ⟨0, by rw [he]; rfl, hw⟩
  · by_cases hl : ys = []
    · subst hl
      exact (equal_zero w _ _ _ _).mono fun e w' ⟨he, hw⟩ => ⟨0, by rw [he]; rfl, hw⟩
    · exact (equal_lens w _ _ _ _ _ _ (by have := List.length_pos_iff.2 hl; omega)).mono fun e w' ⟨he, hw⟩ => ⟨0, by rw [he]; exact ret_bool (decide_eq_false (Ne.symm hl)).symm, hw⟩
  · by_cases hl : xs = []
    · subst hl
      exact (equal_zero w _ _ _ _).mono fun e w' ⟨he, hw⟩ => ⟨0, by rw [he]; rfl, hw⟩
    · exact (equal_lens w _ _ _ _ _ _ (by have := List.length_pos_iff.2 hl; omega)).mono fun e w' ⟨he, hw⟩ => ⟨0, by rw [he]; exact ret_bool (decide_eq_false hl).symm, hw⟩
  · by_cases hl : ys.length = xs.length
    · rw [hl]
      exact equal_same w g1 o1 c1 g2 o2 _ c2 xs ys hl1 rfl hl k1 (fun i hi => k2 i (by omega))
    · exact (equal_lens w _ _ _ _ _ _ (by omega)).mono fun e w' ⟨he, hw⟩ => ⟨0, by rw [he]; exact ret_bool (decide_eq_false (fun e => hl (by rw [e]))).symm, hw⟩

theorem Try.infoInt : (Try.prog.info? 3).map (fun i => (i.zero, i.size, i.bytes)) = some (some (.int .i64 0), 1, 8) := by kernel_rfl
theorem clone_nil (w : World) : Calls Try.prog 16 #[.slice none 0 0] w fun e w' => e = .returned (.slice none 0 0) ∧ w' = w := by
  have hnil := fun w : World => Lib.run_eql_slice_nil (P := Try.prog) w 22 3 none 0 0 0 0 Try.underlying22
  go_enter Try.func16, Try.ntmps16
  go_wp2
  go_ret
  exact ⟨rfl, rfl⟩
theorem ints_of_row {w : World} {base : Nat} {v : Value} {n : Nat} {xs : List Int} (h : w.ownsRow base 3 1 v n (xs.map (Value.int .i64))) (hn : n = xs.length) : Ints w v xs := by
  subst hn
  obtain ⟨h1, h2⟩ := h
  rcases h2 with ⟨rfl, h0⟩ | ⟨g, cap, cur, rfl, _, hh, hnc, hcm, hsz, ht⟩
  · exact Or.inl ⟨rfl, by rw [List.eq_nil_of_length_eq_zero h0]; rfl⟩
  · refine Or.inr ⟨g, 0, cap, cur, (0, 0), by simp, by simpa using hnc, hcm, hh, fun i hi => ?_⟩
    have hi' : i < xs.length := by simpa using hi
    have h3 : (cur.toList.take (xs.length * 1))[i]? = (xs.map (Value.int .i64))[i]? := by rw [ht]
    rw [List.getElem?_take, if_pos (by omega)] at h3
    simp only [Nat.zero_add]
    rw [List.getElem?_eq_getElem hi] at h3
    simpa using h3
theorem clone_some (w : World) (g off cap : Nat) (xs : List Int) (hl : xs.length * 8 ≤ 140737488355328) (hc : ∀ i, i < xs.length → w.cell? ⟨g, off + i, none⟩ = some (.int .i64 (xs.getD i 0))) :
    Calls Try.prog 16 #[.slice (some ⟨g, off, none⟩) xs.length cap] w fun e w' => ∃ v, e = .returned v ∧ Ints w' v xs ∧ Chg [] w w' := by
  obtain ⟨i0, hi, hz0, hz1, hz2⟩ := info_parts Try.infoInt
  have hnil := fun w : World => Lib.run_eql_slice_nil (P := Try.prog) w 22 3 (some ⟨g, off, none⟩) xs.length cap 0 0 Try.underlying22
  have hml : xs.length ≤ maxLen := by unfold maxLen; omega
  have hcs : ∀ j u, (xs.map (Value.int .i64))[j]? = some u → (w.alloc (.cells #[] 3)).cell? ((⟨g, off, none⟩ : Addr).add j) = some u := by
    intro j u hu
    obtain ⟨hj, rfl⟩ := List.getElem?_eq_some_iff.1 hu
    have hj' : j < xs.length := by simpa using hj
    have h1 := hc j hj'
    have h2 := lt_of_cell h1
    rw [Addr.add_lit, World.cell?_alloc_past _ _ _ h2, h1]
    simp [List.getElem?_eq_getElem hj']
  have Hc := Lib.hid hc
  clear hc
  go_enter Try.func16, Try.ntmps16
  go_wp2_with (at_builtin; refine wpList_append_own _ rfl _ _ 22 rfl 0 3 i0 (.int .i64 0) 1 8 Try.underlying22 hi hz0 hz1 hz2 rfl (by decide) (.slice (some ⟨w.heap.size, 0, none⟩) 0 0) 0 [] rfl (World.ownsRow_made w #[] 0 (Nat.zero_le _) (Nat.zero_le _) rfl) ⟨g, off, none⟩ xs.length cap (xs.map (Value.int .i64)) rfl (by simp) hcs (by simp [Value.oneCell']) (by simpa using hml) (by simpa using hl) (Nat.zero_le _) ?_; intro v' w1 hown hgr _)
  go_ret
  refine ⟨v', rfl, ints_of_row (by simpa using hown) (by simp), ?_⟩
  exact ((Chg.refl [] w).alloc _).grown hgr (by simp [Value.ownBlock])
/-- slices.Clone at ints -/
theorem slicesClone (w : World) (v : Value) (xs : List Int) (h : Ints w v xs) (hl : xs.length * 8 ≤ 140737488355328) :
    Calls Try.prog 16 #[v] w fun e w' => ∃ a c, e = .returned (.slice a xs.length c) ∧ Ints w' (.slice a xs.length c) xs ∧ Chg [] w w' := by
  rcases h.cells with ⟨rfl, rfl⟩ | ⟨g, off, cap, rfl, _, hc⟩
  · exact (clone_nil w).mono fun e w' ⟨he, hw⟩ => ⟨none, 0, he, Or.inl ⟨rfl, rfl⟩, by rw [hw]; exact Chg.refl _ _⟩
  · refine (clone_some w g off cap xs hl hc).mono fun e w' ⟨v, he, hv, hw⟩ => ?_
    obtain ⟨a, c, rfl⟩ := hv.shape
    exact ⟨a, c, he, hv, hw⟩
end Go.Proofs.Ytlhngcpodkiafaa
