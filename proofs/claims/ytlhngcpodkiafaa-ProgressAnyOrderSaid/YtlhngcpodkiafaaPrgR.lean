/- Rows of chunks that are to come; copied, cut. -/
import Derived.Test.YtlhngcpodkiafaaPrgQ
import Derived.Test.YtlhngcpodkiafaaStep
namespace Go.Proofs.Ytlhngcpodkiafaa
open Go.RowKit
set_option linter.unusedVariables false
def flatP (tok : Int) (N : Nat) (us : Nat → Value) (P : List Nat) : List Value := P.flatMap fun q => [.int .i64 tok, .int .i64 (q : Nat), .bool (decide (q + 1 = N)), us q]
theorem flatP_len (tok : Int) (N : Nat) (us : Nat → Value) (P : List Nat) : (flatP tok N us P).length = P.length * 4 := by
  induction P with
  | nil => rfl
  | cons p r ih =>
    show ([_, _, _, _] ++ flatP tok N us r).length = _
    rw [List.length_append, ih]
    simp only [List.length_cons, List.length_nil]
    omega
theorem flatP_append (tok : Int) (N : Nat) (us : Nat → Value) (P Q : List Nat) : flatP tok N us (P ++ Q) = flatP tok N us P ++ flatP tok N us Q := by simp [flatP]
theorem flatP_get (tok : Int) (N : Nat) (us : Nat → Value) (P : List Nat) : ∀ (j : Nat) (h : j < P.length), (flatP tok N us P)[j * 4]? = some (.int .i64 tok) ∧ (flatP tok N us P)[j * 4 + 1]? = some (.int .i64 (P[j] : Nat)) ∧ (flatP tok N us P)[j * 4 + 2]? = some (.bool (decide (P[j] + 1 = N))) ∧ (flatP tok N us P)[j * 4 + 3]? = some (us P[j]) := by
  induction P with
  | nil => intro j h; simp at h
  | cons p r ih =>
    intro j h
    have e : flatP tok N us (p :: r) = .int .i64 tok :: .int .i64 (p : Nat) :: .bool (decide (p + 1 = N)) :: us p :: flatP tok N us r := rfl
    rw [e]
    cases j with
    | zero => exact ⟨rfl, rfl, rfl, rfl⟩
    | succ j =>
      have h' := ih j (by simpa using h)
      have e1 : (j + 1) * 4 = j * 4 + 1 + 1 + 1 + 1 := by omega
      rw [e1]
      simp only [List.getElem?_cons_succ, List.getElem_cons_succ]
      exact h'
theorem flatP_take (tok : Int) (N : Nat) (us : Nat → Value) (P : List Nat) (k : Nat) : (flatP tok N us P).take (k * 4) = flatP tok N us (P.take k) := by
  rcases Nat.lt_or_ge P.length k with h | h
  · rw [List.take_of_length_le (show (flatP tok N us P).length ≤ k * 4 by rw [flatP_len]; omega), List.take_of_length_le (show P.length ≤ k by omega)]
  · have e := flatP_append tok N us (P.take k) (P.drop k)
    rw [List.take_append_drop] at e
    rw [e, List.take_append_of_le_length (by rw [flatP_len, List.length_take]; omega), List.take_of_length_le (by rw [flatP_len, List.length_take]; omega)]
theorem flatP_drop (tok : Int) (N : Nat) (us : Nat → Value) (P : List Nat) (k : Nat) : (flatP tok N us P).drop (k * 4) = flatP tok N us (P.drop k) := by
  rcases Nat.lt_or_ge P.length k with h | h
  · rw [List.drop_eq_nil_of_le (by rw [flatP_len]; omega), List.drop_eq_nil_of_le (by omega)]; rfl
  · have e := flatP_append tok N us (P.take k) (P.drop k)
    rw [List.take_append_drop] at e
    rw [e, List.drop_append_of_le_length (by rw [flatP_len, List.length_take]; omega), List.drop_eq_nil_of_le (by rw [flatP_len, List.length_take]; omega)]
    rfl
theorem flatL_flatP (tok : Int) (us : List Value) : flatL tok us = flatP tok us.length (fun q => us.getD q (.bool false)) (List.range us.length) := by
  have hl : (flatL tok us).length = us.length * 4 := by unfold flatL; rw [List.length_set, flatC_len]
  apply List.ext_getElem?
  intro i
  by_cases hi : i < us.length * 4
  · obtain ⟨j, r, hj, hr, rfl⟩ : ∃ j r, j < us.length ∧ r < 4 ∧ i = j * 4 + r := ⟨i / 4, i % 4, by omega, by omega, by omega⟩
    obtain ⟨a0, a1, a2, a3⟩ := flatL_get tok us j hj (.bool false)
    obtain ⟨b0, b1, b2, b3⟩ := flatP_get tok us.length (fun q => us.getD q (.bool false)) (List.range us.length) j (by simpa using hj)
    simp only [List.getElem_range] at b1 b2 b3
    rcases (by omega : r = 0 ∨ r = 1 ∨ r = 2 ∨ r = 3) with rfl | rfl | rfl | rfl
    · exact a0.trans b0.symm
    · exact a1.trans b1.symm
    · exact a2.trans b2.symm
    · exact a3.trans b3.symm
  · rw [List.getElem?_eq_none (by omega), List.getElem?_eq_none (by rw [flatP_len, List.length_range]; omega)]
set_option maxHeartbeats 1000000 in
/-- the reference's Clone at chunks -/
theorem refClone_any (w : World) (ad : Addr) (m c : Nat) (news : List Value) (hm : m ≤ 1000) (hl : news.length = m * 4) (hnews : ∀ j u, news[j]? = some u → w.cell? (ad.add j) = some u) (h1 : ∀ u ∈ news, u.oneCell' = true) :
    Calls Try.prog 12 #[.slice (some ad) m c] w fun e w' => ∃ v, e = .returned v ∧ w'.ownsRow w.heap.size 39 4 v m news ∧ Chg [] w w' := by
  obtain ⟨i0, hi, hz0, hz1, hz2⟩ := info_parts Try.infoChunk
  have Hnews := Lib.hid hnews
  have H1 := Lib.hid h1
  have Hl := Lib.hid hl
  clear hnews h1 hl
  go_enter Try.func12, Try.ntmps12
  go_wp2_with (at_builtin; refine wpList_append_own _ rfl _ _ 29 rfl w.heap.size 39 i0 (.agg #[.int .i64 0, .int .i64 0, .bool false, .slice none 0 0]) 4 48 Try.underlying29 hi hz0 hz1 hz2 rfl (by decide) (.slice none 0 0) 0 [] rfl (World.ownsRow_nil _ _ _ _) ad m c news rfl Hl.out Hnews.out H1.out (by unfold maxLen; omega) (by omega) (Nat.le_refl _) ?_; intro v' w1 hown hgr _)
  go_ret
  exact ⟨v', rfl, by simpa using hown, (Chg.refl [] w).grown hgr (by simp [Value.ownBlock])⟩
/-- s[k:] of a row of chunks -/
theorem chunk_cut (g n cap k : Nat) (hk : k ≤ n) (hn : n ≤ cap) (hk2 : k ≤ 1000) : ∃ ad, (∀ W : World, (Instr.slice 29 (.slice (some ⟨g, 0, none⟩) n cap) (some (.int .i64 (k : Nat))) none none).run Try.prog W = .ok (.slice (some ad) (n - k) (cap - k)) W) ∧ (k < n → ad = ⟨g, k * 4, none⟩) := by
  have h1 : (0 : Int) ≤ (k : Int) := by omega
  have h2 : (k : Int) ≤ (n : Int) := by omega
  by_cases hc : k = cap
  · obtain rfl : k = n := by omega
    subst hc
    refine ⟨⟨g, 0, none⟩, fun W => ?_, fun h => absurd h (Nat.lt_irrefl _)⟩
    simp [go_sem, h1]
  · refine ⟨⟨g, k * 4, none⟩, fun W => ?_, fun _ => rfl⟩
    simp [go_sem, h1, h2]
    exact fun h => absurd h.symm hc
/-- what Split leaves: N chunks with the ints X -/
def SplitAll (tok : Int) (zs : List Int) (w : World) (e : Ending) (w' : World) : Prop :=
  ∃ (N gr cap : Nat) (us : Nat → Value) (X : Nat → List Int), e = .returned (.tuple #[.slice (some ⟨gr, 0, none⟩) N cap, .int .i64 0]) ∧ 1 ≤ N ∧ N ≤ 101 ∧ w'.ownsRow w.heap.size 39 4 (.slice (some ⟨gr, 0, none⟩) N cap) N (flatP tok N us (List.range N)) ∧
    (∀ q, q < N → Ints w' (us q) (X q)) ∧ (List.range N).flatMap X = zs ∧ Chg [] w w'
theorem cat_chunks (zs : List Int) (s k : Nat) : (List.range k).flatMap (fun q => chV zs (ckAt zs.length s q)) = zs.take (k * s) := by
  induction k with
  | zero => simp
  | succ k ih =>
    rw [List.range_succ, List.flatMap_append, ih, Nat.succ_mul, List.take_add]
    congr 1
    simp only [List.flatMap_cons, List.flatMap_nil, List.append_nil]
    unfold chV ckAt
    simp only
    rcases Nat.lt_or_ge zs.length (k * s) with h | h
    · rw [Nat.min_eq_right (by omega), show zs.length - k * s = 0 by omega, List.drop_eq_nil_of_le (by omega)]
      simp
    · rw [Nat.min_eq_left h]
      apply List.ext_getElem
      · simp
      · intro i h1 h2
        simp at h1 h2
        simp [List.getElem?_eq_getElem (show k * s + i < zs.length by omega)]
theorem split_all (tok : Int) (s : Nat) (v : Value) (zs : List Int) (w : World) (htok : 0 ≤ tok) (hs : 1 ≤ s) (hs2 : s ≤ 2147483647) (hz2 : zs.length ≤ 100) (hI : IntsC w v zs) :
    Calls Try.prog 8 #[.int .i64 tok, v, .int .i64 s] w (SplitAll tok zs w) := by
  rcases Nat.eq_zero_or_pos zs.length with h0 | h0
  · obtain ⟨a, cap, rfl, _, _⟩ := hI.shape
    have hz : zs = [] := List.eq_nil_of_length_eq_zero h0
    subst hz
    refine (split_none tok s a cap w htok hs).mono fun e w' ⟨he, hown, hc⟩ => ⟨1, _, 1, fun _ => .slice none 0 0, fun _ => [], he, by omega, by omega, hown, fun q hq => Or.inl ⟨rfl, rfl⟩, rfl, hc⟩
  · have hI' := hI
    obtain ⟨a, cap, rfl, h1, h2, h3⟩ := hI'
    obtain ⟨g, off, rfl, _⟩ := h3 0 h0
    unfold maxLen at h2
    refine (callsIn_wide.1 (split_some tok s g off cap zs.length zs w htok hs hs2 h0 (by omega) (Lib.hid rfl) h1 h2 (Lib.hid hI))).mono ?_
    rintro e w' ⟨k, gr, cp, us, rfl, hul, hk1, hk2, hk3, hown, hus, hc⟩
    have hkb : k ≤ 101 := by
      have := Nat.le_mul_of_pos_right (k - 1) hs
      have e : (k - 1) * s = k * s - s := by rw [Nat.sub_mul, Nat.one_mul]
      omega
    rw [flatL_flatP, hul] at hown
    refine ⟨k, gr, cp, _, fun q => chV zs (ckAt zs.length s q), rfl, hk1, hkb, hown, hus, ?_, hc⟩
    rw [cat_chunks, List.take_of_length_le hk2]
end Go.Proofs.Ytlhngcpodkiafaa
