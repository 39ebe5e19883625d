/- Contracts of the small functions under the inputs store: slices.Equal, slices.Clone, Equal, clone, Mod. -/
import Derived.Test.YtdeodcomlakpaaaBase
import Derived.Test.YtdeodcomlakpaaaRows
import Derived.Deep.QuietTactic
import Derived.BigQuiet
import Derived.Deep.RegionHeld3
namespace Go.Proofs.Ytdeodcomlakpaaa.Inp
open Go.RowKit
theorem take_succ_eq {α : Type} [Inhabited α] {xs ys : List α} {k : Nat} (hk : k < xs.length) (hl : ys.length = xs.length) (h : xs.take k = ys.take k) (d : α) (he : xs.getD k d = ys.getD k d) : xs.take (k + 1) = ys.take (k + 1) := by
  have hk' : k < ys.length := by omega
  rw [List.take_succ_eq_append_getElem hk, List.take_succ_eq_append_getElem hk', h]
  simp only [List.getD_eq_getElem?_getD, List.getElem?_eq_getElem hk, List.getElem?_eq_getElem hk', Option.getD_some] at he
  rw [he]
theorem ret_bool {a b : Bool} (h : a = b) : Ending.returned (.bool a) = .returned (.bool b) := by rw [h]
theorem ret_int {k : IntKind} {a b : Int} (h : a = b) : Ending.returned (.int k a) = .returned (.int k b) := by rw [h]

/-- a slice of ints, read -/
def Ints (w : World) (v : Value) (xs : List Int) : Prop := Sl 3 w v (xs.map (Value.int .i64))
theorem Ints.cells {w : World} {v : Value} {xs : List Int} (h : Ints w v xs) : (v = .slice none 0 0 ∧ xs = []) ∨ ∃ g off cap, v = .slice (some ⟨g, off, none⟩) xs.length cap ∧ xs.length ≤ maxLen ∧ ∀ i, i < xs.length → w.cell? ⟨g, off + i, none⟩ = some (.int .i64 (xs.getD i 0)) := by
  rcases h with ⟨h1, h2⟩ | ⟨g, off, cap, c, fr, h1, h2, h3, h4, h5⟩
  · exact Or.inl ⟨h1, by simpa using h2⟩
  · refine Or.inr ⟨g, off, cap, by simpa using h1, by simp at h2; omega, fun i hi => cell_of_heap h4 ?_⟩
    rw [h5 i (by simpa using hi)]
    simp [List.getElem?_eq_getElem hi]

theorem Ints.shape {w : World} {v : Value} {xs : List Int} (h : Ints w v xs) : ∃ a cap, v = .slice a xs.length cap := by
  rcases h.cells with ⟨rfl, rfl⟩ | ⟨g, off, cap, rfl, _⟩
  · exact ⟨none, 0, rfl⟩
  · exact ⟨_, cap, rfl⟩
theorem Ints.kept {w w' : World} {v : Value} {xs : List Int} {S : List Nat} (h : Ints w v xs) (hc : Chg S w w') (hS : ∀ k ∈ S, NotE 3 w k) : Ints w' v xs := Sl.kept h hc hS
theorem Ints.same {w w' : World} {v : Value} {xs : List Int} (h : Ints w v xs) (hc : Chg [] w w') : Ints w' v xs := Sl.kept h hc (by simp)

set_option maxHeartbeats 400000 in
theorem equal_same (w : World) (g1 o1 c1 g2 o2 n2 c2 : Nat) (xs ys : List Int) (hx : xs.length ≤ maxLen) (hn : n2 = xs.length) (hy : ys.length = xs.length)
   (h1 : ∀ i, i < xs.length → w.cell? ⟨g1, o1 + i, none⟩ = some (.int .i64 (xs.getD i 0))) (h2 : ∀ i, i < xs.length → w.cell? ⟨g2, o2 + i, none⟩ = some (.int .i64 (ys.getD i 0))) :
    Calls Try.prog 102 #[.slice (some ⟨g1, o1, none⟩) xs.length c1, .slice (some ⟨g2, o2, none⟩) n2 c2] w fun e w' => ∃ n, e = .returned (.bool (decide (xs = ys))) ∧ w' = w.drewN n := by
  subst hn
  unfold maxLen at hx
  have Hy := Lib.hid hy
  clear hy
  go_enter Try.func102, Try.ntmps102
  go_wp2
  go_loopw [13] (fun i wr => ∃ k n, k ≤ xs.length ∧ i = .int .i64 (k : Nat) ∧ wr = w.drewN n ∧ xs.take k = ys.take k) (fun i _ => xs.length - (intOf i).toNat)
  case atStart => exact ⟨0, 0, by omega, rfl, rfl, rfl⟩
  case round =>
    obtain ⟨k, n, hk, rfl, rfl, ht⟩ := hrel
    by_cases hlt : k < xs.length
    · have q1 := h1 k hlt
      have q2 := h2 k hlt
      clear h1 h2
      have Ht := Lib.hid ht
      clear ht
      obtain ⟨x, hx⟩ : ∃ x, xs.getD k 0 = x := ⟨_, rfl⟩
      obtain ⟨y, hy⟩ : ∃ y, ys.getD k 0 = y := ⟨_, rfl⟩
      rw [hx] at q1
      rw [hy] at q2
      have Hx := Lib.hid hx
      have Hy' := Lib.hid hy
      clear hx hy
      by_cases he : x = y
      · subst he
        go_wp2
        go_quiet (fail)
        go_wp2
        go_roundw
        case rel => exact ⟨k + 1, n + _, by omega, by go_num, rfl, take_succ_eq hlt Hy.out Ht.out 0 (by rw [Hx.out, Hy'.out])⟩
        case measure => simp [intOf]; omega
      · have he1 : (x != y) = true := by simpa using he
        have He := Lib.hid he
        clear he
        go_wp2
        go_quiet (fail)
        go_wp2
        go_ret
        exact ⟨_, ret_bool (decide_eq_false (fun e => He.out (by rw [← Hx.out, ← Hy'.out, e]))).symm, World.drewN_drewN _ _ _⟩
    · go_wp2
      go_ret
      exact ⟨_, ret_bool (decide_eq_true (by have h3 := ht; rwa [List.take_of_length_le (by omega), List.take_of_length_le (by have := Hy.out; omega)] at h3)).symm, rfl⟩
/-- slices of different lengths, or of none -/
theorem equal_lens (w : World) (a1 a2 : Option Addr) (n1 c1 n2 c2 : Nat) (hn : (n1 : Int) ≠ n2) :
    Calls Try.prog 102 #[.slice a1 n1 c1, .slice a2 n2 c2] w fun e w' => e = .returned (.bool false) ∧ w' = w := by
  have h : ((n1 : Int) != n2) = true := by simpa using hn
  clear hn
  go_enter Try.func102, Try.ntmps102
  go_wp2
  go_ret
  exact ⟨rfl, rfl⟩
theorem equal_zero (w : World) (a1 a2 : Option Addr) (c1 c2 : Nat) :
    Calls Try.prog 102 #[.slice a1 0 c1, .slice a2 0 c2] w fun e w' => e = .returned (.bool true) ∧ w' = w := by
  go_enter Try.func102, Try.ntmps102
  go_wp2
  go_loop [13] (fun i => i = .int .i64 0) (fun i => 0)
  case atStart => rfl
  case round =>
    obtain rfl := hrel
    go_wp2
    go_ret
    exact ⟨rfl, rfl⟩
/-- slices.Equal at ints -/
theorem slicesEqual (w : World) (v1 v2 : Value) (xs ys : List Int) (h1 : Ints w v1 xs) (h2 : Ints w v2 ys) :
    Calls Try.prog 102 #[v1, v2] w fun e w' => ∃ n, e = .returned (.bool (decide (xs = ys))) ∧ w' = w.drewN n := by
  rcases h1.cells with ⟨rfl, rfl⟩ | ⟨g1, o1, c1, rfl, hl1, k1⟩ <;> rcases h2.cells with ⟨rfl, rfl⟩ | ⟨g2, o2, c2, rfl, hl2, k2⟩
  · exact (equal_zero w _ _ _ _).mono fun e w' ⟨he, hw⟩ => ⟨0, by rw [he]; rfl, hw⟩
  · by_cases hl : ys = []
    · subst hl
      exact (equal_zero w _ _ _ _).mono fun e w' ⟨he, hw⟩ => ⟨0, by rw [he]; rfl, hw⟩
    · exact (equal_lens w _ _ _ _ _ _ (by have := List.length_pos_iff.2 hl; omega)).mono fun e w' ⟨he, hw⟩ => ⟨0, by rw [he]; exact ret_bool (decide_eq_false (Ne.symm hl)).symm, hw⟩
  · by_cases hl : xs = []
    · subst hl
      exact (equal_zero w _ _ _ _).mono fun e w' ⟨he, hw⟩ => ⟨0, by rw [he]; rfl, hw⟩
    · exact (equal_lens w _ _ _ _ _ _ (by have := List.length_pos_iff.2 hl; omega)).mono fun e w' ⟨he, hw⟩ => ⟨0, by rw [he]; exact ret_bool (decide_eq_false hl).symm, hw⟩
  · by_cases hl : ys.length = xs.length
    · rw [hl]
      exact equal_same w g1 o1 c1 g2 o2 _ c2 xs ys hl1 rfl hl k1 (fun i hi => k2 i (by omega))
    · exact (equal_lens w _ _ _ _ _ _ (by omega)).mono fun e w' ⟨he, hw⟩ => ⟨0, by rw [he]; exact ret_bool (decide_eq_false (fun e => hl (by rw [e]))).symm, hw⟩

theorem Try.infoInt : (Try.prog.info? 3).map (fun i => (i.zero, i.size, i.bytes)) = some (some (.int .i64 0), 1, 8) := by kernel_rfl
theorem clone_nil (w : World) : Calls Try.prog 88 #[.slice none 0 0] w fun e w' => e = .returned (.slice none 0 0) ∧ w' = w := by
  have hnil := fun w : World => Lib.run_eql_slice_nil (P := Try.prog) w 29 3 none 0 0 0 0 Try.underlying29
  go_enter Try.func88, Try.ntmps88
  go_wp2
  go_ret
  exact ⟨rfl, rfl⟩
theorem ints_of_row {w : World} {base : Nat} {v : Value} {n : Nat} {xs : List Int} (h : w.ownsRow base 3 1 v n (xs.map (Value.int .i64))) (hn : n = xs.length) : Ints w v xs := by
  subst hn
  obtain ⟨h1, h2⟩ := h
  rcases h2 with ⟨rfl, h0⟩ | ⟨g, cap, cur, rfl, _, hh, hnc, hcm, hsz, ht⟩
  · exact Or.inl ⟨rfl, by rw [List.eq_nil_of_length_eq_zero h0]; rfl⟩
  · refine Or.inr ⟨g, 0, cap, cur, (0, 0), by simp, by simpa using hnc, hcm, hh, fun i hi => ?_⟩
    have hi' : i < xs.length := by simpa using hi
    have h3 : (cur.toList.take (xs.length * 1))[i]? = (xs.map (Value.int .i64))[i]? := by rw [ht]
    rw [List.getElem?_take, if_pos (by omega)] at h3
    simp only [Nat.zero_add]
    rw [List.getElem?_eq_getElem hi] at h3
    simpa using h3
theorem ownsRow_ge' {w : World} {base : Nat} {e : TypeId} {size : Nat} {v : Value} {n : Nat} {xs : List Value} (h : w.ownsRow base e size v n xs) {g : Nat} (hg : v.ownBlock = some g) : base ≤ g := by
  rcases h.2 with ⟨rfl, _⟩ | ⟨g', cap, cur, rfl, h1, _⟩
  · simp [Value.ownBlock] at hg
  · simp [Value.ownBlock] at hg
    subst hg
    exact h1
theorem clone_some (w : World) (g off cap : Nat) (xs : List Int) (hl : xs.length * 8 ≤ 140737488355328) (hc : ∀ i, i < xs.length → w.cell? ⟨g, off + i, none⟩ = some (.int .i64 (xs.getD i 0))) :
    Calls Try.prog 88 #[.slice (some ⟨g, off, none⟩) xs.length cap] w fun e w' => ∃ v, e = .returned v ∧ Ints w' v xs ∧ (∀ g, v.ownBlock = some g → w.heap.size ≤ g) ∧ Chg [] w w' := by
  obtain ⟨i0, hi, hz0, hz1, hz2⟩ := info_parts Try.infoInt
  have hnil := fun w : World => Lib.run_eql_slice_nil (P := Try.prog) w 29 3 (some ⟨g, off, none⟩) xs.length cap 0 0 Try.underlying29
  have hml : xs.length ≤ maxLen := by unfold maxLen; omega
  have hcs : ∀ j u, (xs.map (Value.int .i64))[j]? = some u → (w.alloc (.cells #[] 3)).cell? ((⟨g, off, none⟩ : Addr).add j) = some u := by
    intro j u hu
    obtain ⟨hj, rfl⟩ := List.getElem?_eq_some_iff.1 hu
    have hj' : j < xs.length := by simpa using hj
    have h1 := hc j hj'
    have h2 := lt_of_cell h1
    rw [Addr.add_lit, World.cell?_alloc_past _ _ _ h2, h1]
    simp [List.getElem?_eq_getElem hj']
  have Hc := Lib.hid hc
  clear hc
  go_enter Try.func88, Try.ntmps88
  go_wp2_with (at_builtin; refine wpList_append_own _ rfl _ _ 29 rfl w.heap.size 3 i0 (.int .i64 0) 1 8 Try.underlying29 hi hz0 hz1 hz2 rfl (by decide) (.slice (some ⟨w.heap.size, 0, none⟩) 0 0) 0 [] rfl (World.ownsRow_made w #[] 0 (Nat.le_refl _) (Nat.zero_le _) rfl) ⟨g, off, none⟩ xs.length cap (xs.map (Value.int .i64)) rfl (by simp) hcs (by simp [Value.oneCell']) (by simpa using hml) (by simpa using hl) (by simp) ?_; intro v' w1 hown hgr _)
  go_ret
  refine ⟨v', rfl, ints_of_row (by simpa using hown) (by simp), fun g hg => (ownsRow_ge' hown hg), ?_⟩
  exact ((Chg.refl [] w).alloc _).grown hgr (by simp [Value.ownBlock])
/-- slices.Clone at ints -/
theorem slicesClone (w : World) (v : Value) (xs : List Int) (h : Ints w v xs) (hl : xs.length * 8 ≤ 140737488355328) :
    Calls Try.prog 88 #[v] w fun e w' => ∃ a c, e = .returned (.slice a xs.length c) ∧ Ints w' (.slice a xs.length c) xs ∧ (∀ ad, a = some ad → w.heap.size ≤ ad.block) ∧ Chg [] w w' := by
  rcases h.cells with ⟨rfl, rfl⟩ | ⟨g, off, cap, rfl, _, hc⟩
  · exact (clone_nil w).mono fun e w' ⟨he, hw⟩ => ⟨none, 0, he, Or.inl ⟨rfl, rfl⟩, (by simp), by rw [hw]; exact Chg.refl _ _⟩
  · refine (clone_some w g off cap xs hl hc).mono fun e w' ⟨v, he, hv, hn, hw⟩ => ?_
    obtain ⟨a, c, rfl⟩ := hv.shape
    exact ⟨a, c, he, hv, fun ad ha => hn _ (by subst ha; rfl), hw⟩
/-- inputs.clone -/
theorem inputsClone (w : World) (v : Value) (s : ByteArray) (xs : List Int) (h : Ints w v xs) (hl : xs.length * 8 ≤ 140737488355328) :
    Calls Try.prog 85 #[.agg #[v, .string s]] w fun e w' => ∃ a c, e = .returned (.agg #[.slice a xs.length c, .string s]) ∧ Ints w' (.slice a xs.length c) xs ∧ (∀ ad, a = some ad → w.heap.size ≤ ad.block) ∧ Chg [] w w' := by
  obtain ⟨a0, c0, rfl⟩ := h.shape
  have Hh := Lib.hid h
  clear h
  go_enter Try.func85, Try.ntmps85
  go_wp2_with fail
  go_region_held3 (fun w' => w'.cell? ⟨w.heap.size, 0, none⟩ = some (.slice a0 xs.length c0) ∧ w'.cell? ⟨w.heap.size, 1, none⟩ = some (.string s))
    (first | go_keep | (go_split_ands; refine ⟨?_, ?_⟩ <;> (rw [hc1.cell (by simp; try omega) (by simp)]; simp [go_sem, World.cell?_alloc_past])))
    ((go_at_call 88; refine (slicesClone _ _ xs (Hh.out.same (by exact (((Chg.refl [] w).alloc _).alloc _).drew)) hl).mono ?_; rintro e w1 ⟨a1, c1, rfl, hi1, hn1, hc1⟩; have q1 := hc1.block (w.heap.size + 1) (by simp) (by simp); have r0 : w1.cell? ⟨w.heap.size + 1, 0, none⟩ = some (.slice none 0 0) := (World.cell?_of_block q1).trans (by simp [go_sem]); have r1 : w1.cell? ⟨w.heap.size + 1, 1, none⟩ = some (.string ⟨#[]⟩) := (World.cell?_of_block q1).trans (by simp [go_sem]); have f0 : w1.frozen? ⟨w.heap.size + 1, 0, none⟩ = false := (World.frozen?_of_block q1).trans (by simp [go_sem]); have f1 : w1.frozen? ⟨w.heap.size + 1, 1, none⟩ = false := (World.frozen?_of_block q1).trans (by simp [go_sem])))
  go_wp2
  refine bodyPost_ret (v := .agg #[.slice a1 xs.length c1, .string s]) (by simp [results, Try.results85, go_sem, r0, r1]) rfl ⟨a1, c1, rfl, ?_, fun ad ha => by have := hn1 ad ha; simp at this; omega, ?_⟩
  · exact hi1.kept (((Chg.refl [w.heap.size + 1] _).setCell (Or.inl (by simp)) _).setCell (Or.inl (by simp)) _) (fun k hk => by
      obtain rfl : k = w.heap.size + 1 := by simpa using hk
      intro c fr
      rw [q1, show ∀ w0 : World, w0.drew.heap = w0.heap from fun _ => rfl, show w.heap.size + 1 = (w.alloc (.cells #[.slice a0 xs.length c0, .string s] 31)).heap.size from by simp, heap_alloc_new]
      simp)
  · exact (((((Chg.refl [] w).alloc _).alloc _).drew.new hc1).setCell (Or.inr (by simp)) _).setCell (Or.inr (by simp)) _
theorem bytes_eq {a b : ByteArray} (h : a.toList = b.toList) : a = b := by
  rw [ByteArray.toList_eq, ByteArray.toList_eq] at h
  exact WideShapes.bytes_inj h
/-- inputs.Equal -/
theorem inputsEqual (w : World) (v v' : Value) (s s' : ByteArray) (xs xs' : List Int) (h : Ints w v xs) (h' : Ints w v' xs') :
    Calls Try.prog 84 #[.agg #[v, .string s], .agg #[v', .string s']] w fun e w' => e = .returned (.bool (decide (s = s' ∧ xs = xs'))) ∧ Chg [] w w' := by
  obtain ⟨a0, c0, rfl⟩ := h.shape
  obtain ⟨a1, c1, rfl⟩ := h'.shape
  have Hh := Lib.hid h
  have Hh' := Lib.hid h'
  clear h h'
  by_cases hs : s = s'
  · subst hs
    go_enter Try.func84, Try.ntmps84
    go_wp2_with fail
    refine (slicesEqual _ _ _ xs xs' (Hh.out.same (((Chg.refl [] w).alloc _).alloc _)) (Hh'.out.same (((Chg.refl [] w).alloc _).alloc _))).mono ?_
    rintro e w' ⟨n, rfl, rfl⟩
    go_wp2
    go_ret
    exact ⟨ret_bool (by simp), (((Chg.refl [] w).alloc _).alloc _).drewN n⟩
  · have hs' : ¬ s.toList = s'.toList := fun e => hs (bytes_eq e)
    have Hs := Lib.hid hs
    clear hs
    go_enter Try.func84, Try.ntmps84
    go_wp2
    go_ret
    exact ⟨ret_bool (decide_eq_false (fun e => Hs.out e.1)).symm, ((Chg.refl [] w).alloc _).alloc _⟩
end Go.Proofs.Ytdeodcomlakpaaa.Inp
