/- Contracts of the small functions under the inputs store: slices.Equal, slices.Clone, Equal, clone, Mod. -/
import Derived.Test.YtggiddhhbilcjaaBase
import Derived.Test.YtggiddhhbilcjaaRows
import Derived.Deep.QuietTactic
import Derived.BigQuiet
import Derived.Deep.RegionHeld3
import Derived.DeepKeys4
import Derived.Laws.Externs
/- Contracts of the small functions under the inputs store: slices.Equal, slices.Clone, Equal, clone, Mod. -/
namespace Go.Proofs.Ytggiddhhbilcjaa.Inp
open Go.RowKit
theorem take_succ_eq {α : Type} [Inhabited α] {xs ys : List α} {k : Nat} (hk : k < xs.length) (hl : ys.length = xs.length) (h : xs.take k = ys.take k) (d : α) (he : xs.getD k d = ys.getD k d) : xs.take (k + 1) = ys.take (k + 1) := by
  have hk' : k < ys.length := by omega
  rw [List.take_succ_eq_append_getElem hk, List.take_succ_eq_append_getElem hk', h]
  simp only [List.getD_eq_getElem?_getD, List.getElem?_eq_getElem hk, List.getElem?_eq_getElem hk', Option.getD_some] at he
  rw [he]
theorem ret_bool {a b : Bool} (h : a = b) : Ending.returned (.bool a) = .returned (.bool b) := by rw [h]
theorem ret_int {k : IntKind} {a b : Int} (h : a = b) : Ending.returned (.int k a) = .returned (.int k b) := by rw [h]

/-- a slice of ints, read -/
def Ints (w : World) (v : Value) (xs : List Int) : Prop := Sl 3 w v (xs.map (Value.int .i64))
theorem Ints.cells {w : World} {v : Value} {xs : List Int} (h : Ints w v xs) : (v = .slice none 0 0 ∧ xs = []) ∨ ∃ g off cap, v = .slice (some ⟨g, off, none⟩) xs.length cap ∧ xs.length ≤ maxLen ∧ ∀ i, i < xs.length → w.cell? ⟨g, off + i, none⟩ = some (.int .i64 (xs.getD i 0)) := by
  rcases h with ⟨h1, h2⟩ | ⟨g, off, cap, c, fr, h1, h2, h3, h4, h5⟩
  · exact Or.inl ⟨h1, by simpa using h2⟩
  · refine Or.inr ⟨g, off, cap, by simpa using h1, by simp at h2; omega, fun i hi => cell_of_heap h4 ?_⟩
    rw [h5 i (by simpa using hi)]
    simp [List.getElem?_eq_getElem hi]

theorem Ints.shape {w : World} {v : Value} {xs : List Int} (h : Ints w v xs) : ∃ a cap, v = .slice a xs.length cap := by
  rcases h.cells with ⟨rfl, rfl⟩ | ⟨g, off, cap, rfl, _⟩
  · exact ⟨none, 0, rfl⟩
  · exact ⟨_, cap, rfl⟩
theorem Ints.kept {w w' : World} {v : Value} {xs : List Int} {S : List Nat} (h : Ints w v xs) (hc : Chg S w w') (hS : ∀ k ∈ S, NotE 3 w k) : Ints w' v xs := Sl.kept h hc hS
theorem Ints.same {w w' : World} {v : Value} {xs : List Int} (h : Ints w v xs) (hc : Chg [] w w') : Ints w' v xs := Sl.kept h hc (by simp)

set_option maxHeartbeats 400000 in
theorem equal_same (w : World) (g1 o1 c1 g2 o2 n2 c2 : Nat) (xs ys : List Int) (hx : xs.length ≤ maxLen) (hn : n2 = xs.length) (hy : ys.length = xs.length)
   (h1 : ∀ i, i < xs.length → w.cell? ⟨g1, o1 + i, none⟩ = some (.int .i64 (xs.getD i 0))) (h2 : ∀ i, i < xs.length → w.cell? ⟨g2, o2 + i, none⟩ = some (.int .i64 (ys.getD i 0))) :
    Calls Try.prog 90 #[.slice (some ⟨g1, o1, none⟩) xs.length c1, .slice (some ⟨g2, o2, none⟩) n2 c2] w fun e w' => ∃ n, e = .returned (.bool (decide (xs = ys))) ∧ w' = w.drewN n := by
  subst hn
  unfold maxLen at hx
  have Hy := Lib.hid hy
  clear hy
  go_enter Try.func90, Try.ntmps90
  go_wp2
  go_loopw [13] (fun i wr => ∃ k n, k ≤ xs.length ∧ i = .int .i64 (k : Nat) ∧ wr = w.drewN n ∧ xs.take k = ys.take k) (fun i _ => xs.length - (intOf i).toNat)
  case atStart => exact ⟨0, 0, by omega, rfl, rfl, rfl⟩
  case round =>
    obtain ⟨k, n, hk, rfl, rfl, ht⟩ := hrel
    by_cases hlt : k < xs.length
    · have q1 := h1 k hlt
      have q2 := h2 k hlt
      clear h1 h2
      have Ht := Lib.hid ht
      clear ht
      obtain ⟨x, hx⟩ : ∃ x, xs.getD k 0 = x := ⟨_, rfl⟩
      obtain ⟨y, hy⟩ : ∃ y, ys.getD k 0 = y := ⟨_, rfl⟩
      rw [hx] at q1
      rw [hy] at q2
      have Hx := Lib.hid hx
      have Hy' := Lib.hid hy
      clear hx hy
      by_cases he : x = y
      · subst he
        go_wp2
        go_quiet (fail)
        go_wp2
        go_roundw
        case rel => exact ⟨k + 1, n + _, by omega, by go_num, rfl, take_succ_eq hlt Hy.out Ht.out 0 (by rw [Hx.out, Hy'.out])⟩
        case measure => simp [intOf]; omega
      · have he1 : (x != y) = true := by simpa using he
        have He := Lib.hid he
        clear he
        go_wp2
        go_quiet (fail)
        go_wp2
        go_ret
        exact ⟨_, ret_bool (decide_eq_false (fun e => He.out (by rw [← Hx.out, ← Hy'.out, e]))).symm, World.drewN_drewN _ _ _⟩
    · go_wp2
      go_ret
      exact ⟨_, ret_bool (decide_eq_true (by have h3 := ht; rwa [List.take_of_length_le (by omega), List.take_of_length_le (by have := Hy.out; omega)] at h3)).symm, rfl⟩
/-- slices of different lengths, or of none -/
theorem equal_lens (w : World) (a1 a2 : Option Addr) (n1 c1 n2 c2 : Nat) (hn : (n1 : Int) ≠ n2) :
    Calls Try.prog 90 #[.slice a1 n1 c1, .slice a2 n2 c2] w fun e w' => e = .returned (.bool false) ∧ w' = w := by
  have h : ((n1 : Int) != n2) = true := by simpa using hn
  clear hn
  go_enter Try.func90, Try.ntmps90
  go_wp2
  go_ret
  exact ⟨rfl, rfl⟩
theorem equal_zero (w : World) (a1 a2 : Option Addr) (c1 c2 : Nat) :
    Calls Try.prog 90 #[.slice a1 0 c1, .slice a2 0 c2] w fun e w' => e = .returned (.bool true) ∧ w' = w := by
  go_enter Try.func90, Try.ntmps90
  go_wp2
  go_loop [13] (fun i => i = .int .i64 0) (fun i => 0)
  case atStart => rfl
  case round =>
    obtain rfl := hrel
    go_wp2
    go_ret
    exact ⟨rfl, rfl⟩
/-- slices.Equal at ints -/
theorem slicesEqual (w : World) (v1 v2 : Value) (xs ys : List Int) (h1 : Ints w v1 xs) (h2 : Ints w v2 ys) :
    Calls Try.prog 90 #[v1, v2] w fun e w' => ∃ n, e = .returned (.bool (decide (xs = ys))) ∧ w' = w.drewN n := by
  rcases h1.cells with ⟨rfl, rfl⟩ | ⟨g1, o1, c1, rfl, hl1, k1⟩ <;> rcases h2.cells with ⟨rfl, rfl⟩ | ⟨g2, o2, c2, rfl, hl2, k2⟩
  · exact (equal_zero w _ _ _ _).mono fun e w' ⟨he, hw⟩ => ⟨0, by rw [he]; rfl, hw⟩
  · by_cases hl : ys = []
    · subst hl
      exact (equal_zero w _ _ _ _).mono fun e w' ⟨he, hw⟩ => ⟨0, by rw [he]; rfl, hw⟩
    · exact (equal_lens w _ _ _ _ _ _ (by have := List.length_pos_iff.2 hl; omega)).mono fun e w' ⟨he, hw⟩ => ⟨0, by rw [he]; exact ret_bool (decide_eq_false (Ne.symm hl)).symm, hw⟩
  · by_cases hl : xs = []
    · subst hl
      exact (equal_zero w _ _ _ _).mono fun e w' ⟨he, hw⟩ => ⟨0, by rw [he]; rfl, hw⟩
    · exact (equal_lens w _ _ _ _ _ _ (by have := List.length_pos_iff.2 hl; omega)).mono fun e w' ⟨he, hw⟩ => ⟨0, by rw [he]; exact ret_bool (decide_eq_false hl).symm, hw⟩
  · by_cases hl : ys.length = xs.length
    · rw [hl]
      exact equal_same w g1 o1 c1 g2 o2 _ c2 xs ys hl1 rfl hl k1 (fun i hi => k2 i (by omega))
    · exact (equal_lens w _ _ _ _ _ _ (by omega)).mono fun e w' ⟨he, hw⟩ => ⟨0, by rw [he]; exact ret_bool (decide_eq_false (fun e => hl (by rw [e]))).symm, hw⟩

theorem Try.infoInt : (Try.prog.info? 3).map (fun i => (i.zero, i.size, i.bytes)) = some (some (.int .i64 0), 1, 8) := by kernel_rfl
theorem clone_nil (w : World) : Calls Try.prog 62 #[.slice none 0 0] w fun e w' => e = .returned (.slice none 0 0) ∧ w' = w := by
  have hnil := fun w : World => Lib.run_eql_slice_nil (P := Try.prog) w 37 3 none 0 0 0 0 Try.underlying37
  go_enter Try.func62, Try.ntmps62
  go_wp2
  go_ret
  exact ⟨rfl, rfl⟩
theorem ints_of_row {w : World} {base : Nat} {v : Value} {n : Nat} {xs : List Int} (h : w.ownsRow base 3 1 v n (xs.map (Value.int .i64))) (hn : n = xs.length) : Ints w v xs := by
  subst hn
  obtain ⟨h1, h2⟩ := h
  rcases h2 with ⟨rfl, h0⟩ | ⟨g, cap, cur, rfl, _, hh, hnc, hcm, hsz, ht⟩
  · exact Or.inl ⟨rfl, by rw [List.eq_nil_of_length_eq_zero h0]; rfl⟩
  · refine Or.inr ⟨g, 0, cap, cur, (0, 0), by simp, by simpa using hnc, hcm, hh, fun i hi => ?_⟩
    have hi' : i < xs.length := by simpa using hi
    have h3 : (cur.toList.take (xs.length * 1))[i]? = (xs.map (Value.int .i64))[i]? := by rw [ht]
    rw [List.getElem?_take, if_pos (by omega)] at h3
    simp only [Nat.zero_add]
    rw [List.getElem?_eq_getElem hi] at h3
    simpa using h3
theorem ownsRow_ge' {w : World} {base : Nat} {e : TypeId} {size : Nat} {v : Value} {n : Nat} {xs : List Value} (h : w.ownsRow base e size v n xs) {g : Nat} (hg : v.ownBlock = some g) : base ≤ g := by
  rcases h.2 with ⟨rfl, _⟩ | ⟨g', cap, cur, rfl, h1, _⟩
  · simp [Value.ownBlock] at hg
  · simp [Value.ownBlock] at hg
    subst hg
    exact h1
theorem clone_some (w : World) (g off cap : Nat) (xs : List Int) (hl : xs.length * 8 ≤ 140737488355328) (hc : ∀ i, i < xs.length → w.cell? ⟨g, off + i, none⟩ = some (.int .i64 (xs.getD i 0))) :
    Calls Try.prog 62 #[.slice (some ⟨g, off, none⟩) xs.length cap] w fun e w' => ∃ v, e = .returned v ∧ Ints w' v xs ∧ (∀ g, v.ownBlock = some g → w.heap.size ≤ g) ∧ Chg [] w w' := by
  obtain ⟨i0, hi, hz0, hz1, hz2⟩ := info_parts Try.infoInt
  have hnil := fun w : World => Lib.run_eql_slice_nil (P := Try.prog) w 37 3 (some ⟨g, off, none⟩) xs.length cap 0 0 Try.underlying37
  have hml : xs.length ≤ maxLen := by unfold maxLen; omega
  have hcs : ∀ j u, (xs.map (Value.int .i64))[j]? = some u → (w.alloc (.cells #[] 3)).cell? ((⟨g, off, none⟩ : Addr).add j) = some u := by
    intro j u hu
    obtain ⟨hj, rfl⟩ := List.getElem?_eq_some_iff.1 hu
    have hj' : j < xs.length := by simpa using hj
    have h1 := hc j hj'
    have h2 := lt_of_cell h1
    rw [Addr.add_lit, World.cell?_alloc_past _ _ _ h2, h1]
    simp [List.getElem?_eq_getElem hj']
  have Hc := Lib.hid hc
  clear hc
  go_enter Try.func62, Try.ntmps62
  go_wp2_with (at_builtin; refine wpList_append_own _ rfl _ _ 37 rfl w.heap.size 3 i0 (.int .i64 0) 1 8 Try.underlying37 hi hz0 hz1 hz2 rfl (by decide) (.slice (some ⟨w.heap.size, 0, none⟩) 0 0) 0 [] rfl (World.ownsRow_made w #[] 0 (Nat.le_refl _) (Nat.zero_le _) rfl) ⟨g, off, none⟩ xs.length cap (xs.map (Value.int .i64)) rfl (by simp) hcs (by simp [Value.oneCell']) (by simpa using hml) (by simpa using hl) (by simp) ?_; intro v' w1 hown hgr _)
  go_ret
  refine ⟨v', rfl, ints_of_row (by simpa using hown) (by simp), fun g hg => (ownsRow_ge' hown hg), ?_⟩
  exact ((Chg.refl [] w).alloc _).grown hgr (by simp [Value.ownBlock])
/-- slices.Clone at ints -/
theorem slicesClone (w : World) (v : Value) (xs : List Int) (h : Ints w v xs) (hl : xs.length * 8 ≤ 140737488355328) :
    Calls Try.prog 62 #[v] w fun e w' => ∃ a c, e = .returned (.slice a xs.length c) ∧ Ints w' (.slice a xs.length c) xs ∧ (∀ ad, a = some ad → w.heap.size ≤ ad.block) ∧ Chg [] w w' := by
  rcases h.cells with ⟨rfl, rfl⟩ | ⟨g, off, cap, rfl, _, hc⟩
  · exact (clone_nil w).mono fun e w' ⟨he, hw⟩ => ⟨none, 0, he, Or.inl ⟨rfl, rfl⟩, (by simp), by rw [hw]; exact Chg.refl _ _⟩
  · refine (clone_some w g off cap xs hl hc).mono fun e w' ⟨v, he, hv, hn, hw⟩ => ?_
    obtain ⟨a, c, rfl⟩ := hv.shape
    exact ⟨a, c, he, hv, fun ad ha => hn _ (by subst ha; rfl), hw⟩
/-- inputs.clone -/
theorem inputsClone (w : World) (v : Value) (s : ByteArray) (xs : List Int) (h : Ints w v xs) (hl : xs.length * 8 ≤ 140737488355328) :
    Calls Try.prog 73 #[.agg #[v, .string s]] w fun e w' => ∃ a c, e = .returned (.agg #[.slice a xs.length c, .string s]) ∧ Ints w' (.slice a xs.length c) xs ∧ (∀ ad, a = some ad → w.heap.size ≤ ad.block) ∧ Chg [] w w' := by
  obtain ⟨a0, c0, rfl⟩ := h.shape
  have Hh := Lib.hid h
  clear h
  go_enter Try.func73, Try.ntmps73
  go_wp2_with fail
  go_region_held3 (fun w' => w'.cell? ⟨w.heap.size, 0, none⟩ = some (.slice a0 xs.length c0) ∧ w'.cell? ⟨w.heap.size, 1, none⟩ = some (.string s))
    (first | go_keep | (go_split_ands; refine ⟨?_, ?_⟩ <;> (rw [hc1.cell (by simp; try omega) (by simp)]; simp [go_sem, World.cell?_alloc_past])))
    ((go_at_call 62; refine (slicesClone _ _ xs (Hh.out.same (by exact (((Chg.refl [] w).alloc _).alloc _).drew)) hl).mono ?_; rintro e w1 ⟨a1, c1, rfl, hi1, hn1, hc1⟩; have q1 := hc1.block (w.heap.size + 1) (by simp) (by simp); have r0 : w1.cell? ⟨w.heap.size + 1, 0, none⟩ = some (.slice none 0 0) := (World.cell?_of_block q1).trans (by simp [go_sem]); have r1 : w1.cell? ⟨w.heap.size + 1, 1, none⟩ = some (.string ⟨#[]⟩) := (World.cell?_of_block q1).trans (by simp [go_sem]); have f0 : w1.frozen? ⟨w.heap.size + 1, 0, none⟩ = false := (World.frozen?_of_block q1).trans (by simp [go_sem]); have f1 : w1.frozen? ⟨w.heap.size + 1, 1, none⟩ = false := (World.frozen?_of_block q1).trans (by simp [go_sem])))
  go_wp2
  refine bodyPost_ret (v := .agg #[.slice a1 xs.length c1, .string s]) (by simp [results, Try.results73, go_sem, r0, r1]) rfl ⟨a1, c1, rfl, ?_, fun ad ha => by have := hn1 ad ha; simp at this; omega, ?_⟩
  · exact hi1.kept (((Chg.refl [w.heap.size + 1] _).setCell (Or.inl (by simp)) _).setCell (Or.inl (by simp)) _) (fun k hk => by
      obtain rfl : k = w.heap.size + 1 := by simpa using hk
      intro c fr
      rw [q1, show ∀ w0 : World, w0.drew.heap = w0.heap from fun _ => rfl, show w.heap.size + 1 = (w.alloc (.cells #[.slice a0 xs.length c0, .string s] 39)).heap.size from by simp, heap_alloc_new]
      simp)
  · exact (((((Chg.refl [] w).alloc _).alloc _).drew.new hc1).setCell (Or.inr (by simp)) _).setCell (Or.inr (by simp)) _
theorem bytes_eq {a b : ByteArray} (h : a.toList = b.toList) : a = b := by
  rw [ByteArray.toList_eq, ByteArray.toList_eq] at h
  exact WideShapes.bytes_inj h
/-- inputs.Equal -/
theorem inputsEqual (w : World) (v v' : Value) (s s' : ByteArray) (xs xs' : List Int) (h : Ints w v xs) (h' : Ints w v' xs') :
    Calls Try.prog 65 #[.agg #[v, .string s], .agg #[v', .string s']] w fun e w' => e = .returned (.bool (decide (s = s' ∧ xs = xs'))) ∧ Chg [] w w' := by
  obtain ⟨a0, c0, rfl⟩ := h.shape
  obtain ⟨a1, c1, rfl⟩ := h'.shape
  have Hh := Lib.hid h
  have Hh' := Lib.hid h'
  clear h h'
  by_cases hs : s = s'
  · subst hs
    go_enter Try.func65, Try.ntmps65
    go_wp2_with fail
    refine (slicesEqual _ _ _ xs xs' (Hh.out.same (((Chg.refl [] w).alloc _).alloc _)) (Hh'.out.same (((Chg.refl [] w).alloc _).alloc _))).mono ?_
    rintro e w' ⟨n, rfl, rfl⟩
    go_wp2
    go_ret
    exact ⟨ret_bool (by simp), (((Chg.refl [] w).alloc _).alloc _).drewN n⟩
  · have hs' : ¬ s.toList = s'.toList := fun e => hs (bytes_eq e)
    have Hs := Lib.hid hs
    clear hs
    go_enter Try.func65, Try.ntmps65
    go_wp2
    go_ret
    exact ⟨ret_bool (decide_eq_false (fun e => Hs.out e.1)).symm, ((Chg.refl [] w).alloc _).alloc _⟩
end Go.Proofs.Ytggiddhhbilcjaa.Inp
/- The inputs store: what it is in memory ('StoreIs'), its keys, and the contracts of New, Revision, LastChange, Get. -/
namespace Go.Proofs.Ytggiddhhbilcjaa.Inp
open Go.RowKit Go.ChangeMaps Go.MapKept
open Go.Maps (Keyed)

/-! ### keys -/
abbrev QK := Int × Int × Int
def qk (k : QK) : Value := .agg #[.int .i64 k.1, .int .i64 k.2.1, .int .i64 k.2.2]
theorem qk_inj (x y : QK) (h : qk x = qk y) : x = y := by
  obtain ⟨a, b, c⟩ := x
  obtain ⟨d, e, f⟩ := y
  simp only [qk, Value.agg.injEq] at h
  have h1 := congrArg Array.toList h
  simp at h1
  simp [h1]
def In64 (n : Int) : Prop := -9223372036854775808 ≤ n ∧ n ≤ 9223372036854775807
def QKok (k : QK) : Prop := In64 k.1 ∧ In64 k.2.1 ∧ In64 k.2.2
theorem wf64 {n : Int} (h : In64 n) : (Lit.int .i64 n).wf = true := WalkArith.wf_i64 h
/-- a struct of three ints is a key -/
theorem keyOk3 {P : Program} {t ti : TypeId} {f0 f1 f2 : Field} (hu : P.underlying t = some (.struct #[f0, f1, f2])) (h0 : f0.type = ti) (h1 : f1.type = ti) (h2 : f2.type = ti) (o0 : f0.offset = 0) (o1 : f1.offset = 1) (o2 : f2.offset = 2)
    (hn : (f0.name != "_" && f1.name != "_" && f2.name != "_") = true) (hi : P.underlying ti = some (.int .i64)) (hk : P.keyType t = true) (hc : P.cellsOf t = 3) (hci : P.cellsOf ti = 1) (hsz : 0 < P.types.size) {a b c : Int} (wa : (Lit.int .i64 a).wf = true) (wb : (Lit.int .i64 b).wf = true) (wc : (Lit.int .i64 c).wf = true) :
    KeyOk P t (.agg #[.int .i64 a, .int .i64 b, .int .i64 c]) := by
  obtain ⟨m, hm⟩ : ∃ m, P.types.size = m + 1 := ⟨P.types.size - 1, by omega⟩
  have e : ∀ n, (Lit.int .i64 n).wf = true → P.keyLits (m + 1) ti [.int .i64 n] = some [.int .i64 n] := fun n hn => by
    unfold Program.keyLits
    rw [hi]
    simp [hn]
  have e2 : P.keyLits (m + 1 + 1) t [.int .i64 a, .int .i64 b, .int .i64 c] = some [.int .i64 a, .int .i64 b, .int .i64 c] := by
    unfold Program.keyLits
    rw [hu]
    simp only [Bool.and_eq_true] at hn
    simp [hc, h0, h1, h2, o0, o1, o2, hci, e a wa, e b wb, e c wc, hn]
  unfold KeyOk keyOf
  rw [hu]
  simp [hk, Value.formed, hu, hc, Value.cells, hm, e2]
theorem Try.laidOut : laidOutB Try.prog = true := by kernel_rfl
theorem Try.rowQK : (43 : TypeId) < Try.prog.types.size := of_decide_eq_true (by kernel_rfl)
theorem Try.wideQK : (match Try.prog.underlying 43 with | some (.array _ _) | some (.struct _) => true | _ => false) = true := by rw [Try.underlying43]
theorem Try.cellsQK : Try.prog.cellsOf 43 = 3 := by kernel_rfl
theorem Try.cellsInt : Try.prog.cellsOf 3 = 1 := by kernel_rfl
theorem Try.keysQK : Try.prog.keyType 43 = true := by kernel_rfl
set_option maxRecDepth 100000 in
theorem qkeyed : Keyed Try.prog 43 := Keyed.of_law (deep_law_laid Try.laidOut (m := 2) (by omega) Try.rowQK (by kernel_rfl) Try.wideQK)
theorem qkOk {k : QK} (h : QKok k) : KeyOk Try.prog 43 (qk k) :=
  keyOk3 Try.underlying43 rfl rfl rfl rfl rfl rfl (by decide) Try.underlying3 Try.keysQK Try.cellsQK Try.cellsInt (Nat.lt_of_le_of_lt (Nat.zero_le _) Try.rowQK) (wf64 h.1) (wf64 h.2.1) (wf64 h.2.2)

/-! ### the store in memory -/
/-- A cell of the store: its value's slice (a, cap) and numbers, its text, when it changed, its durability. -/
structure CV where
  a : Option Addr
  cap : Nat
  xs : List Int
  tx : ByteArray
  ch : Int
  du : Int
def CV.val (c : CV) : Value := .agg #[.slice c.a c.xs.length c.cap, .string c.tx, .int .i64 c.ch, .int .i64 c.du]
def CV.zero : CV := ⟨none, 0, [], ⟨#[]⟩, 0, 0⟩
/-- what the cell's slice owes -/
def CV.At (w : World) (c : CV) : Prop := Ints w (.slice c.a c.xs.length c.cap) c.xs ∧ c.xs.length * 8 ≤ 140737488355328
structure St where
  rev : Int
  l0 : Int
  l1 : Int
  l2 : Int
  es : List (QK × CV)
def vals (es : List (QK × CV)) : List (QK × Value) := es.map fun p => (p.1, p.2.val)
theorem aget_vals (es : List (QK × CV)) (k : QK) : aget (vals es) k = (aget es k).map CV.val := by
  induction es with
  | nil => rfl
  | cons p r ih =>
    unfold vals at ih ⊢
    rw [List.map_cons, aget_cons, aget_cons, ih]
    split <;> rfl
theorem ups_vals (es : List (QK × CV)) (k : QK) (c : CV) : ups (vals es) k c.val = vals (ups es k c) := by
  induction es with
  | nil => rfl
  | cons p r ih =>
    unfold vals at ih ⊢
    rw [List.map_cons]
    unfold ups
    simp only
    split
    · rfl
    · rw [ih]; rfl
structure StoreIs (w : World) (b bm : Nat) (S : St) : Prop where
  blk : w.heap[b]? = some (.cells #[.int .i64 S.rev, .int .i64 S.l0, .int .i64 S.l1, .int .i64 S.l2, .map (some bm)] 142 (0, 0))
  map : MapAt Try.prog 43 qk w bm (vals S.es)
  vals : ∀ p ∈ S.es, p.2.At w
theorem CV.At.kept {w w' : World} {c : CV} {S : List Nat} (h : c.At w) (hc : Chg S w w') (hS : ∀ k ∈ S, NotE 3 w k) : c.At w' := ⟨h.1.kept hc hS, h.2⟩
theorem StoreIs.kept {w w' : World} {b bm : Nat} {S : St} {T : List Nat} (h : StoreIs w b bm S) (hc : Chg T w w') (hT : ∀ k ∈ T, NotE 3 w k) (hb : b ∉ T) (hm : bm ∉ T) : StoreIs w' b bm S :=
  ⟨(hc.block b (lt_of_obj h.blk) hb).trans h.blk, h.map.kept hc hm, fun p hp => (h.vals p hp).kept hc hT⟩
theorem StoreIs.same {w w' : World} {b bm : Nat} {S : St} (h : StoreIs w b bm S) (hc : Chg [] w w') : StoreIs w' b bm S := h.kept hc (by simp) (by simp) (by simp)
theorem zero_cell (w : World) : (zeroValue 147).run Try.prog w = .ok CV.zero.val w := by kernel_rfl
theorem CV.zero_at (w : World) : CV.zero.At w := ⟨Or.inl ⟨rfl, rfl⟩, by decide⟩
/-- what the store holds at a key -/
def St.at (S : St) (k : QK) : CV := (aget S.es k).getD CV.zero
theorem StoreIs.at {w : World} {b bm : Nat} {S : St} (h : StoreIs w b bm S) (k : QK) : (S.at k).At w := by
  unfold St.at
  cases hk : aget S.es k with
  | none => exact CV.zero_at w
  | some c => exact h.vals _ (aget_mem hk)
theorem StoreIs.lookup {w : World} {b bm : Nat} {S : St} (h : StoreIs w b bm S) {k : QK} (hk : QKok k) :
    (Instr.lookup 139 (.map (some bm)) (qk k) false).run Try.prog w = .ok (S.at k).val w := by
  rw [h.map.lookup qkeyed qk_inj Try.underlying139 (qkOk hk) (zero_cell w) false, aget_vals]
  unfold St.at
  cases aget S.es k <;> rfl

set_option maxHeartbeats 400000 in
theorem revision_any (b bm : Nat) (S : St) (w : World) (h : StoreIs w b bm S) :
    Calls Try.prog 94 #[.pointer (some ⟨b, 0, none⟩)] w fun e w' => e = .returned (.int .i64 S.rev) ∧ w = w' := by
  have h0 := cell_of_heap h.blk (i := 0) rfl
  go_enter Try.func94, Try.ntmps94
  go_wp2
  go_ret
  exact ⟨rfl, rfl⟩
/-- the last change of a durability -/
def St.last (S : St) (d : Int) : Int := if d = 0 then S.l0 else if d = 1 then S.l1 else S.l2
set_option maxHeartbeats 400000 in
theorem last_any (b bm : Nat) (S : St) (d : Int) (w : World) (h : StoreIs w b bm S) (hd0 : 0 ≤ d) (hd : d < 3) :
    Calls Try.prog 103 #[.pointer (some ⟨b, 0, none⟩), .int .i64 d] w fun e w' => e = .returned (.int .i64 (S.last d)) ∧ w = w' := by
  have h0 : w.cell? ⟨b, 1 + d.toNat, none⟩ = some (.int .i64 (S.last d)) := by
    refine cell_of_heap h.blk ?_
    unfold St.last
    rcases (by omega : d = 0 ∨ d = 1 ∨ d = 2) with rfl | rfl | rfl <;> rfl
  clear h
  go_enter Try.func103, Try.ntmps103
  go_wp2
  go_ret
  exact ⟨rfl, rfl⟩
set_option maxHeartbeats 400000 in
theorem new_any (w : World)  :
    Calls Try.prog 48 #[] w fun e w' => e = .returned (.pointer (some ⟨w.heap.size + 1, 0, none⟩)) ∧ StoreIs w' (w.heap.size + 1) w.heap.size ⟨0, 0, 0, 0, []⟩ ∧ Chg [] w w' := by
  have hmm := @run_makeMap Try.prog
  go_enter Try.func48, Try.ntmps48
  go_wp2
  go_ret
  refine ⟨rfl, ⟨?_, ?_, by simp⟩, ((Chg.refl [] w).alloc _).alloc _⟩
  · rw [show w.heap.size + 1 = (w.alloc (.map #[] 0)).heap.size from by simp, heap_alloc_new]
  · exact (MapAt.made Try.prog 43 qk w).kept ((Chg.refl [] _).alloc _) (by simp)
set_option maxHeartbeats 400000 in
theorem get_any (b bm : Nat) (S : St) (k : QK) (w : World) (h : StoreIs w b bm S) (hk : QKok k) :
    Calls Try.prog 74 #[.pointer (some ⟨b, 0, none⟩), qk k] w fun e w' => ∃ a c, e = .returned (.tuple #[.agg #[.slice a (S.at k).xs.length c, .string (S.at k).tx], .int .i64 (S.at k).ch, .int .i64 (S.at k).du]) ∧
      Ints w' (.slice a (S.at k).xs.length c) (S.at k).xs ∧ (∀ ad, a = some ad → w.heap.size ≤ ad.block) ∧ Chg [] w w' := by
  have hl : ∀ w', Chg [] w w' → (Instr.lookup 139 (.map (some bm)) (qk k) false).run Try.prog w' = .ok (S.at k).val w' := fun w' hc => (h.same hc).lookup hk
  have hv := h.at k
  have h4 := cell_of_heap h.blk (i := 4) rfl
  have hb := World.new_ne w _ h4
  have hb2 := lt_of_obj h.blk
  have hb3 : b < w.heap.size + 1 := by omega
  have hb4 : b < w.heap.size + 2 := by omega
  have hb5 : b < w.heap.size + 1 + 1 := by omega
  have hb6 : b < w.heap.size + 3 := by omega
  obtain ⟨⟨a0, cap0, xs, tx, ch, du⟩, hc⟩ : ∃ c, c = S.at k := ⟨_, rfl⟩
  rw [← hc] at hl hv ⊢
  clear hc
  simp only [CV.val] at hl ⊢
  unfold qk at hl ⊢
  have Hv := Lib.hid hv
  have Hl := Lib.hid hl
  have hl2 := fun o1 o2 => hl _ (((Chg.refl [] w).alloc o1).alloc o2).drew
  have hl3 := fun o1 o2 o3 => hl _ ((((Chg.refl [] w).alloc o1).alloc o2).alloc o3).drew
  clear hv h hl
  go_enter Try.func74, Try.ntmps74
  go_wp2
  go_region
  go_wp2
  go_region_held3 (fun w' => w'.cell? ⟨w.heap.size + 1 + 1, 0, none⟩ = some (.slice a0 xs.length cap0) ∧ w'.cell? ⟨w.heap.size + 1 + 1, 1, none⟩ = some (.string tx) ∧ w'.cell? ⟨w.heap.size + 1 + 1, 2, none⟩ = some (.int .i64 ch) ∧ w'.cell? ⟨w.heap.size + 1 + 1, 3, none⟩ = some (.int .i64 du))
    (first | (go_keep; done) | (refine ⟨?_, ?_, ?_, ?_⟩ <;> (simp [go_sem]; done)) | (refine ⟨?_, ?_, ?_, ?_⟩ <;> (rw [hc1.cell (by simp; try omega) (by simp)]; simp [go_sem]; done)))
    ((go_at_call 73; refine (inputsClone _ _ _ xs (Hv.out.1.same (by repeat (first | exact Chg.refl _ _ | apply Chg.drew | apply Chg.alloc | refine Chg.setCell ?_ (Or.inr (by simp)) _))) Hv.out.2).mono ?_; rintro e w1 ⟨a1, c1, rfl, hi1, hn1, hc1⟩; have q1 := hc1.block (w.heap.size + 1) (by first | (simp; done) | (simp; omega)) (by simp); have r0 : w1.cell? ⟨w.heap.size + 1, 0, none⟩ = some (.slice none 0 0) := (World.cell?_of_block q1).trans (by simp [go_sem]); have r1 : w1.cell? ⟨w.heap.size + 1, 1, none⟩ = some (.string ⟨#[]⟩) := (World.cell?_of_block q1).trans (by simp [go_sem]); have f0 : w1.frozen? ⟨w.heap.size + 1, 0, none⟩ = false := (World.frozen?_of_block q1).trans (by simp [go_sem]); have f1 : w1.frozen? ⟨w.heap.size + 1, 1, none⟩ = false := (World.frozen?_of_block q1).trans (by simp [go_sem])))
  go_wp2
  refine bodyPost_ret (v := .tuple #[.agg #[.slice a1 xs.length c1, .string tx], .int .i64 ch, .int .i64 du]) (by simp [results, Try.results74, go_sem, r0, r1]) rfl ⟨a1, c1, rfl, ?_, fun ad ha => by have := hn1 ad ha; simp at this; omega, ?_⟩
  · have hn := NotE.of_heap (E := 3) (q1.trans ((heap_past _ _ _ (by simp)).trans (heap_at _ _ _ (by simp)))) (by simp)
    exact Sl.setCell (Sl.setCell hi1 hn _) (hn.setCell _ _) _
  · exact (((((((Chg.refl [] w).alloc _).alloc _).alloc _).drew.drew.new hc1).setCell (Or.inr (by simp)) _).setCell (Or.inr (by simp)) _)
end Go.Proofs.Ytggiddhhbilcjaa.Inp
/- The contract of the inputs store's Set. -/
namespace Go.Proofs.Ytggiddhhbilcjaa.Inp
open Go.RowKit Go.ChangeMaps Go.MapKept

theorem StoreIs.ne {w : World} {b bm : Nat} {S : St} (h : StoreIs w b bm S) : b ≠ bm := by
  rintro rfl
  obtain ⟨arr, clock, h1, _⟩ := h.map
  have := h.blk
  rw [h1] at this
  cases this
/-- the same value and durability -/
def St.same (S : St) (k : QK) (xs : List Int) (tx : ByteArray) (du : Int) : Prop := (S.at k).du = du ∧ (S.at k).tx = tx ∧ (S.at k).xs = xs
/-- what Set returns and leaves if nothing changes -/
def SetSame (b bm : Nat) (S : St) (w : World) (e : Ending) (w' : World) : Prop := e = .returned (.tuple #[.bool false, .int .i64 0]) ∧ StoreIs w' b bm S ∧ Chg [] w w'
/-- the store after a change -/
def St.set (S : St) (k : QK) (c : CV) (m : Int) : St := ⟨S.rev + 1, S.rev + 1, if 1 ≤ m then S.rev + 1 else S.l1, if 2 ≤ m then S.rev + 1 else S.l2, ups S.es k c⟩
def SetNew (b bm : Nat) (S : St) (k : QK) (xs : List Int) (tx : ByteArray) (du : Int) (w : World) (e : Ending) (w' : World) : Prop :=
  ∃ a cap, e = .returned (.tuple #[.bool true, .int .i64 0]) ∧ StoreIs w' b bm (S.set k ⟨a, cap, xs, tx, S.rev + 1, du⟩ (max (S.at k).du du)) ∧ Chg [b, bm] w w' ∧ ∀ ad, a = some ad → w.heap.size ≤ ad.block

/-- the store's block while its last changes are written -/
structure SetLoop (b bm : Nat) (S : St) (w : World) (k : Nat) (k2 k3 : Int) (v : Value) (tx : ByteArray) (wr : World) : Prop where
  chg : Chg [b] w wr
  key : wr.heap[w.heap.size]? = some (.cells #[.int .i64 0, .int .i64 k2, .int .i64 k3] 43 (0, 0))
  val : wr.heap[w.heap.size + 1]? = some (.cells #[v, .string tx] 39 (0, 0))
  blk : wr.heap[b]? = some (.cells #[.int .i64 (S.rev + 1), .int .i64 (if 0 < k then S.rev + 1 else S.l0), .int .i64 (if 1 < k then S.rev + 1 else S.l1), .int .i64 (if 2 < k then S.rev + 1 else S.l2), .map (some bm)] 142 (0, 0))
  size : w.heap.size + 2 < wr.heap.size
theorem SetLoop.cell {b bm : Nat} {S : St} {w : World} {k : Nat} {k2 k3 : Int} {v : Value} {tx : ByteArray} {wr : World} (h : SetLoop b bm S w k k2 k3 v tx wr) (j : Nat) (hj : j < 3) : wr.cell? ⟨b, 1 + j, none⟩ = some (.int .i64 (if j < k then S.rev + 1 else if j = 0 then S.l0 else if j = 1 then S.l1 else S.l2)) := by
  refine cell_of_heap h.blk ?_
  rcases (by omega : j = 0 ∨ j = 1 ∨ j = 2) with rfl | rfl | rfl <;> rfl
theorem SetLoop.step {b bm : Nat} {S : St} {w : World} {k : Nat} {k2 k3 : Int} {v : Value} {tx : ByteArray} {wr : World} (h : SetLoop b bm S w k k2 k3 v tx wr) (hb : b < w.heap.size) (hk : k < 3) : SetLoop b bm S w (k + 1) k2 k3 v tx ((wr.setCell ⟨b, 1 + k, none⟩ (.int .i64 (S.rev + 1))).drew) where
  chg := (h.chg.setCell (Or.inl (by simp)) _).drew
  key := (heap_setCell_ne _ _ _ _ (by simp; omega)).trans h.key
  val := (heap_setCell_ne _ _ _ _ (by simp; omega)).trans h.val
  blk := (heap_setCell_same h.blk _).trans (by rcases (by omega : k = 0 ∨ k = 1 ∨ k = 2) with rfl | rfl | rfl <;> rfl)
  size := by have := h.size; simp [World.setCell, World.drew]; omega
theorem set_end {b bm : Nat} {S : St} {w wr w2 : World} {k : Nat} {k2 k3 : Int} {v : Value} {tx : ByteArray} {xs : List Int} {du m : Int} {a : Option Addr} {cap : Nat} {o : Obj} (Hs : StoreIs w b bm S) (Hr : SetLoop b bm S w k k2 k3 v tx wr) (hc : Chg [] wr w2)
    (hi : Ints w2 (.slice a xs.length cap) xs) (hx : xs.length * 8 ≤ 140737488355328) (hmap : MapAt Try.prog 43 qk (setBlock w2 bm o) bm (ups (vals S.es) (0, k2, k3) (CV.val ⟨a, cap, xs, tx, S.rev + 1, du⟩))) (hm : (k : Int) = m + 1) (hm0 : 0 ≤ m) :
    StoreIs (setBlock w2 bm o) b bm (S.set (0, k2, k3) ⟨a, cap, xs, tx, S.rev + 1, du⟩ m) ∧ Chg [b, bm] w (setBlock w2 bm o) := by
  have hne := Hs.ne
  have hbm := Hs.map.lt
  have hb := lt_of_obj Hs.blk
  have hnb : NotE 3 w b := NotE.of_heap Hs.blk (by simp)
  have hnm : NotE 3 w bm := by
    obtain ⟨arr, clock, h1, _⟩ := Hs.map
    exact NotE.of_heap h1 (by simp)
  have c1 : Chg [b] w w2 := Hr.chg.new hc
  have c2 : Chg [b, bm] w (setBlock w2 bm o) := (c1.mono (by simp)).setBlock (Or.inl (by simp)) _
  have c3 : Chg [bm] w2 (setBlock w2 bm o) := (Chg.refl _ _).setBlock (Or.inl (by simp)) _
  have hnm2 : NotE 3 w2 bm := hnm.of_chg c1 hbm (by simpa using Ne.symm hne)
  refine ⟨⟨?_, by rw [ups_vals] at hmap; exact hmap, ?_⟩, c2⟩
  · rw [c3.block b (by have := c1.size; omega) (by simpa using hne), hc.block b (by have := Hr.chg.size; omega) (by simp), Hr.blk]
    have e1 : (0 < k) = True := by simp; omega
    have e2 : (1 < k) = (1 ≤ m) := propext (by omega)
    have e3 : (2 < k) = (2 ≤ m) := propext (by omega)
    simp [St.set, e1, e2, e3]
  · intro p hp
    rcases mem_ups hp with rfl | hp
    · exact ⟨hi.kept c3 (by simpa using hnm2), hx⟩
    · exact (Hs.vals p hp).kept c2 (by intro j hj; simp at hj; rcases hj with rfl | rfl <;> assumption)
set_option maxHeartbeats 1000000 in
theorem set_same (b bm : Nat) (S : St) (k : QK) (v : Value) (xs : List Int) (tx : ByteArray) (du : Int) (w : World) (h : StoreIs w b bm S) (hk : QKok k) (h0 : k.1 = 0) (hv : Ints w v xs) (hdu : 0 ≤ du ∧ du < 3) (hs : S.same k xs tx du) :
    Calls Try.prog 54 #[.pointer (some ⟨b, 0, none⟩), qk k, .agg #[v, .string tx], .int .i64 du] w (SetSame b bm S w) := by
  obtain ⟨hd0, hd3⟩ := hdu
  have hl : ∀ w', Chg [] w w' → (Instr.lookup 139 (.map (some bm)) (qk k) false).run Try.prog w' = .ok (S.at k).val w' := fun w' hc => (h.same hc).lookup hk
  have hold := h.at k
  have h4 := cell_of_heap h.blk (i := 4) rfl
  have hb := World.new_ne w _ h4
  have hb2 := lt_of_obj h.blk
  have hb3 : b < w.heap.size + 1 := by omega
  have hb4 : b < w.heap.size + 2 := by omega
  have hb5 : b < w.heap.size + 1 + 1 := by omega
  have hb6 : b < w.heap.size + 3 := by omega
  obtain ⟨av, cv, rfl⟩ := hv.shape
  unfold St.same at hs
  obtain ⟨⟨a0, cap0, xs0, tx0, ch, du0⟩, hc⟩ : ∃ c, c = S.at k := ⟨_, rfl⟩
  rw [← hc] at hl hold hs
  clear hc
  obtain ⟨rfl, rfl, rfl⟩ := hs
  obtain ⟨k1, k2, k3⟩ := k
  obtain rfl : k1 = 0 := h0
  simp only [CV.val] at hl hd0 hd3 ⊢
  unfold qk at hl ⊢
  have Hv := Lib.hid hv
  have Ho := Lib.hid hold.1
  have Hs := Lib.hid h
  have hl2 := fun o1 o2 => hl _ (((Chg.refl [] w).alloc o1).alloc o2).drew
  have hl3 := fun o1 o2 o3 => hl _ ((((Chg.refl [] w).alloc o1).alloc o2).alloc o3).drew
  clear hv h hl hk hold
  go_enter Try.func54, Try.ntmps54
  go_wp2
  go_region
  go_wp2_with fail
  refine (inputsEqual _ _ _ _ _ _ _ (Ho.out.same ?ho) (Hv.out.same ?hv)).mono ?_
  case ho => repeat (first | exact Chg.refl _ _ | apply Chg.drew | apply Chg.alloc | refine Chg.setCell ?_ (Or.inr (by simp)) _)
  case hv => repeat (first | exact Chg.refl _ _ | apply Chg.drew | apply Chg.alloc | refine Chg.setCell ?_ (Or.inr (by simp)) _)
  rintro e w1 ⟨rfl, hc1⟩
  rw [decide_eq_true (show tx0 = tx0 ∧ xs0 = xs0 from ⟨rfl, rfl⟩)]
  go_wp2
  go_ret2
  have hc : Chg [] w w1 := by
    refine Chg.new ?_ hc1
    repeat (first | exact Chg.refl _ _ | apply Chg.drew | apply Chg.alloc | refine Chg.setCell ?_ (Or.inr (by simp)) _)
  exact ⟨rfl, Hs.out.same hc, hc⟩

set_option maxHeartbeats 2000000 in
theorem set_new (b bm : Nat) (S : St) (k : QK) (v : Value) (xs : List Int) (tx : ByteArray) (du : Int) (w : World) (h : StoreIs w b bm S) (hk : QKok k) (h0 : k.1 = 0) (hv : Ints w v xs) (hx : xs.length * 8 ≤ 140737488355328) (hdu : 0 ≤ du ∧ du < 3) (hdo : 0 ≤ (S.at k).du ∧ (S.at k).du < 3) (hrev : 0 ≤ S.rev ∧ S.rev < 4611686018427387904) (hs : ¬ S.same k xs tx du) :
    Calls Try.prog 54 #[.pointer (some ⟨b, 0, none⟩), qk k, .agg #[v, .string tx], .int .i64 du] w (SetNew b bm S k xs tx du w) := by
  obtain ⟨hd0, hd3⟩ := hdu
  obtain ⟨ho0, ho3⟩ := hdo
  obtain ⟨hr0, hr1⟩ := hrev
  have hl : ∀ w', Chg [] w w' → (Instr.lookup 139 (.map (some bm)) (qk k) false).run Try.prog w' = .ok (S.at k).val w' := fun w' hc => (h.same hc).lookup hk
  have hold := h.at k
  have hblk := h.blk
  have h4 := cell_of_heap h.blk (i := 4) rfl
  have hb := World.new_ne w _ h4
  have hb2 := lt_of_obj h.blk
  have hb3 : b < w.heap.size + 1 := by omega
  have hb4 : b < w.heap.size + 2 := by omega
  have hb5 : b < w.heap.size + 1 + 1 := by omega
  have hb6 : b < w.heap.size + 3 := by omega
  obtain ⟨av, cv, rfl⟩ := hv.shape
  unfold St.same at hs
  obtain ⟨c, hc⟩ : ∃ c, c = S.at k := ⟨_, rfl⟩
  rw [← hc] at hl hold hs ho0 ho3
  have Hc := Lib.hid hc
  clear hc
  obtain ⟨a0, cap0, xs0, tx0, ch, du0⟩ := c
  obtain ⟨k1, k2, k3⟩ := k
  obtain rfl : k1 = 0 := h0
  simp only [CV.val] at hl hs ho0 ho3 ⊢
  unfold qk at hl ⊢
  have Hv := Lib.hid hv
  have Ho := Lib.hid hold.1
  have Hs := Lib.hid h
  have Hk := Lib.hid hk
  have Hblk := Lib.hid hblk
  have hr := cell_of_heap h.blk (i := 0) rfl
  have fr := frozen_of_heap h.blk (i := 0)
  have hl2 := fun o1 o2 => hl _ (((Chg.refl [] w).alloc o1).alloc o2).drew
  have hl3 := fun o1 o2 o3 => hl _ ((((Chg.refl [] w).alloc o1).alloc o2).alloc o3).drew
  clear hv h hl hk hold hblk
  by_cases hdd : du0 = du
  · subst hdd
    have Hn := Lib.hid hs
    clear hs
    go_enter Try.func54, Try.ntmps54
    go_wp2
    go_region
    go_wp2_with fail
    refine (inputsEqual _ _ _ _ _ _ _ (Ho.out.same ?ho) (Hv.out.same ?hv)).mono ?_
    case ho => repeat (first | exact Chg.refl _ _ | apply Chg.drew | apply Chg.alloc | refine Chg.setCell ?_ (Or.inr (by simp)) _)
    case hv => repeat (first | exact Chg.refl _ _ | apply Chg.drew | apply Chg.alloc | refine Chg.setCell ?_ (Or.inr (by simp)) _)
    rintro e w1 ⟨rfl, hc1⟩
    rw [decide_eq_false (show ¬ (tx0 = tx ∧ xs0 = xs) from fun e => Hn.out ⟨trivial, e⟩)]
    have hcw : Chg [] w w1 := by
      refine Chg.new ?_ hc1
      repeat (first | exact Chg.refl _ _ | apply Chg.drew | apply Chg.alloc | refine Chg.setCell ?_ (Or.inr (by simp)) _)
    have B1 := (hc1.block w.heap.size (by first | (simp; done) | (simp; omega)) (by simp)).trans ((heap_past _ _ _ (by first | (simp; done) | (simp; omega))).trans ((heap_past _ _ _ (by simp)).trans (heap_at _ _ _ rfl)))
    have B2 := (hc1.block (w.heap.size + 1) (by first | (simp; done) | (simp; omega)) (by simp)).trans ((heap_past _ _ _ (by simp)).trans (heap_at _ _ _ (by simp)))
    have B3 := (hc1.block (w.heap.size + 1 + 1) (by simp) (by simp)).trans (heap_at _ _ _ (by simp))
    have Bb := (hcw.block b hb2 (by simp)).trans Hblk.out
    have hz1 : w.heap.size + 2 < w1.heap.size := by have := hc1.size; simp at this; omega
    have hr1' := cell_of_heap Bb (i := 0) rfl
    have fr1 := frozen_of_heap Bb (i := 0)
    have d1 := cell_of_heap B3 (i := 3) rfl
    clear hr fr h4
    go_wp2
    go_loopw [49] (fun i wr => ∃ k : Nat, (k : Int) ≤ du0 + 1 ∧ i = .int .i64 k ∧ SetLoop b bm S w k k2 k3 (.slice av xs.length cv) tx wr) (fun i _ => (du0 + 1 - intOf i).toNat)
    case atStart =>
      refine ⟨0, by omega, rfl, ⟨?_, (heap_setCell_ne _ _ _ _ (by simp; omega)).trans B1, (heap_setCell_ne _ _ _ _ (by simp; omega)).trans B2, heap_setCell_same Bb _, by simp [World.setCell]; omega⟩⟩
      exact ((hcw.mono (by simp)).setCell (Or.inl (by simp)) _)
    case round =>
      obtain ⟨k, hk, rfl, hrel⟩ := hrel
      by_cases hlt : (k : Int) < du0 + 1
      · have hk0 : (0 : Int) ≤ k := by omega
        have hk3 : (k : Int) < 3 := by omega
        have g0 := cell_of_heap hrel.blk (i := 0) rfl
        have gk := hrel.cell k (by omega)
        have fk := frozen_of_heap hrel.blk (i := 1 + k)
        have hbw := lt_of_obj hrel.blk
        have Hr := Lib.hid hrel
        clear hrel B1 B2 B3 Bb hr1' fr1 d1
        go_wp2
        go_region
        go_wp2
        exact ⟨⟨k + 1, by omega, by go_num, Hr.out.step hb2 (by omega)⟩, by simp [intOf]; omega⟩
      · have g0 := cell_of_heap hrel.blk (i := 0) rfl
        have g4 := cell_of_heap hrel.blk (i := 4) rfl
        have n0 := cell_of_heap hrel.key (i := 0) rfl
        have n1 := cell_of_heap hrel.key (i := 1) rfl
        have n2 := cell_of_heap hrel.key (i := 2) rfl
        have m0 := cell_of_heap hrel.val (i := 0) rfl
        have m1 := cell_of_heap hrel.val (i := 1) rfl
        have Hr := Lib.hid hrel
        have hnb : NotE 3 w b := NotE.of_heap Hblk.out (by simp)
        have hne := Hs.out.ne
        have hbm := Hs.out.map.lt
        clear hrel
        go_wp2
        go_region_held3 (fun w' => w'.cell? ⟨b, 0, none⟩ = some (.int .i64 (S.rev + 1)) ∧ w'.cell? ⟨b, 4, none⟩ = some (.map (some bm)) ∧ w'.cell? ⟨w.heap.size, 0, none⟩ = some (.int .i64 0) ∧ w'.cell? ⟨w.heap.size, 1, none⟩ = some (.int .i64 k2) ∧ w'.cell? ⟨w.heap.size, 2, none⟩ = some (.int .i64 k3) ∧ w'.cell? ⟨w.heap.size + 1, 0, none⟩ = some (.slice av xs.length cv) ∧ w'.cell? ⟨w.heap.size + 1, 1, none⟩ = some (.string tx))
          (first | (go_keep; done) | (refine ⟨?_, ?_, ?_, ?_, ?_, ?_, ?_⟩ <;> (rw [hc2.cell (by have := Hr.out.size; simp only [heap_drew]; omega) (by simp)]; simp [go_sem, *]; done)) | (refine ⟨?_, ?_, ?_, ?_, ?_, ?_, ?_⟩ <;> (rw [cell_setBlock (by simp; omega)]; rw [hc2.cell (by have := Hr.out.size; simp only [heap_drew]; omega) (by simp)]; simp [go_sem, *]; done)))
          ((go_at_call 73; refine (inputsClone _ _ _ xs (Hv.out.kept Hr.out.chg.drew (by simpa using hnb)) hx).mono ?_; rintro e w2 ⟨a1, c1, rfl, hi1, hn1, hc2⟩; obtain ⟨o, hupd, hmap⟩ := ((Hs.out.map.kept Hr.out.chg (by simpa using Ne.symm hne)).kept (Chg.drew (Chg.refl [] _) |>.new hc2) (by simp)).update qkeyed qk_inj Try.underlying139 (qkOk Hk.out) (CV.val ⟨a1, c1, xs, tx, S.rev + 1, du0⟩); simp only [CV.val] at hupd; unfold qk at hupd))
        go_wp2
        go_ret2
        have hfin := set_end (m := du0) Hs.out Hr.out ((Chg.refl [] wr).drew.new hc2) hi1 hx hmap (by omega) ho0
        refine ⟨a1, c1, rfl, ?_, hfin.2, fun ad ha => by have h1 := hn1 ad ha; have h2 := Hr.out.size; have h3 : wr.drew.heap.size = wr.heap.size := rfl; omega⟩
        rw [← Hc.out, Int.max_self]
        exact hfin.1
  · have hdd' : (du0 == du) = false := by simpa using hdd
    clear hs
    rcases Int.lt_or_gt_of_ne hdd with hlt0 | hgt0
    · clear hdd
      go_enter Try.func54, Try.ntmps54
      go_wp2
      go_region
      go_wp2
      go_loopw [49] (fun i wr => ∃ k : Nat, (k : Int) ≤ du + 1 ∧ i = .int .i64 k ∧ SetLoop b bm S w k k2 k3 (.slice av xs.length cv) tx wr) (fun i _ => (du + 1 - intOf i).toNat)
      case atStart =>
        have es : ∀ o : Value, (w.setCell ⟨b, 0, none⟩ o).heap.size = w.heap.size := fun o => by simp [World.setCell]
        refine ⟨0, by omega, rfl, ⟨(((((Chg.refl [b] w).setCell (Or.inl (by simp)) _).alloc _).alloc _).alloc _).drew, ?_, ?_, ?_, ?_⟩⟩
        · exact (heap_past _ _ _ (by simp [es]; omega)).trans ((heap_past _ _ _ (by simp [es])).trans (heap_at _ _ _ (es _).symm))
        · exact (heap_past _ _ _ (by simp [es])).trans (heap_at _ _ _ (by simp [es]))
        · exact (heap_past _ _ _ (by simp [es]; omega)).trans ((heap_past _ _ _ (by simp [es]; omega)).trans ((heap_past _ _ _ (by rw [es]; exact hb2)).trans (heap_setCell_same Hblk.out _)))
        · simp only [heap_drew]; simp [es]
      case round =>
        obtain ⟨k, hk, rfl, hrel⟩ := hrel
        by_cases hlt : (k : Int) < du + 1
        · have hk0 : (0 : Int) ≤ k := by omega
          have hk3 : (k : Int) < 3 := by omega
          have g0 := cell_of_heap hrel.blk (i := 0) rfl
          have gk := hrel.cell k (by omega)
          have fk := frozen_of_heap hrel.blk (i := 1 + k)
          have hbw := lt_of_obj hrel.blk
          have Hr := Lib.hid hrel
          clear hrel hr fr h4
          go_wp2
          go_region
          go_wp2
          exact ⟨⟨k + 1, by omega, by go_num, Hr.out.step hb2 (by omega)⟩, by simp [intOf]; omega⟩
        · have g0 := cell_of_heap hrel.blk (i := 0) rfl
          have g4 := cell_of_heap hrel.blk (i := 4) rfl
          have n0 := cell_of_heap hrel.key (i := 0) rfl
          have n1 := cell_of_heap hrel.key (i := 1) rfl
          have n2 := cell_of_heap hrel.key (i := 2) rfl
          have m0 := cell_of_heap hrel.val (i := 0) rfl
          have m1 := cell_of_heap hrel.val (i := 1) rfl
          have Hr := Lib.hid hrel
          have hnb : NotE 3 w b := NotE.of_heap Hblk.out (by simp)
          have hne := Hs.out.ne
          have hbm := Hs.out.map.lt
          clear hrel hr fr h4
          go_wp2
          go_region_held3 (fun w' => w'.cell? ⟨b, 0, none⟩ = some (.int .i64 (S.rev + 1)) ∧ w'.cell? ⟨b, 4, none⟩ = some (.map (some bm)) ∧ w'.cell? ⟨w.heap.size, 0, none⟩ = some (.int .i64 0) ∧ w'.cell? ⟨w.heap.size, 1, none⟩ = some (.int .i64 k2) ∧ w'.cell? ⟨w.heap.size, 2, none⟩ = some (.int .i64 k3) ∧ w'.cell? ⟨w.heap.size + 1, 0, none⟩ = some (.slice av xs.length cv) ∧ w'.cell? ⟨w.heap.size + 1, 1, none⟩ = some (.string tx))
            (first | (go_keep; done) | (refine ⟨?_, ?_, ?_, ?_, ?_, ?_, ?_⟩ <;> (rw [hc2.cell (by have := Hr.out.size; simp only [heap_drew]; omega) (by simp)]; simp [go_sem, *]; done)) | (refine ⟨?_, ?_, ?_, ?_, ?_, ?_, ?_⟩ <;> (rw [cell_setBlock (by simp; omega)]; rw [hc2.cell (by have := Hr.out.size; simp only [heap_drew]; omega) (by simp)]; simp [go_sem, *]; done)))
            ((go_at_call 73; refine (inputsClone _ _ _ xs (Hv.out.kept Hr.out.chg.drew (by simpa using hnb)) hx).mono ?_; rintro e w2 ⟨a1, c1, rfl, hi1, hn1, hc2⟩; obtain ⟨o, hupd, hmap⟩ := ((Hs.out.map.kept Hr.out.chg (by simpa using Ne.symm hne)).kept (Chg.drew (Chg.refl [] _) |>.new hc2) (by simp)).update qkeyed qk_inj Try.underlying139 (qkOk Hk.out) (CV.val ⟨a1, c1, xs, tx, S.rev + 1, du⟩); simp only [CV.val] at hupd; unfold qk at hupd))
          go_wp2
          go_ret2
          have hfin := set_end (m := du) Hs.out Hr.out ((Chg.refl [] wr).drew.new hc2) hi1 hx hmap (by omega) (by omega)
          refine ⟨a1, c1, rfl, ?_, hfin.2, fun ad ha => by have h1 := hn1 ad ha; have h2 := Hr.out.size; have h3 : wr.drew.heap.size = wr.heap.size := rfl; omega⟩
          rw [← Hc.out, Int.max_eq_right (Int.le_of_lt hlt0)]
          exact hfin.1
    · clear hdd
      go_enter Try.func54, Try.ntmps54
      go_wp2
      go_region
      go_wp2
      go_loopw [49] (fun i wr => ∃ k : Nat, (k : Int) ≤ du0 + 1 ∧ i = .int .i64 k ∧ SetLoop b bm S w k k2 k3 (.slice av xs.length cv) tx wr) (fun i _ => (du0 + 1 - intOf i).toNat)
      case atStart =>
        have es : ∀ o : Value, (w.setCell ⟨b, 0, none⟩ o).heap.size = w.heap.size := fun o => by simp [World.setCell]
        refine ⟨0, by omega, rfl, ⟨(((((Chg.refl [b] w).setCell (Or.inl (by simp)) _).alloc _).alloc _).alloc _).drew, ?_, ?_, ?_, ?_⟩⟩
        · exact (heap_past _ _ _ (by simp [es]; omega)).trans ((heap_past _ _ _ (by simp [es])).trans (heap_at _ _ _ (es _).symm))
        · exact (heap_past _ _ _ (by simp [es])).trans (heap_at _ _ _ (by simp [es]))
        · exact (heap_past _ _ _ (by simp [es]; omega)).trans ((heap_past _ _ _ (by simp [es]; omega)).trans ((heap_past _ _ _ (by rw [es]; exact hb2)).trans (heap_setCell_same Hblk.out _)))
        · simp only [heap_drew]; simp [es]
      case round =>
        obtain ⟨k, hk, rfl, hrel⟩ := hrel
        by_cases hlt : (k : Int) < du0 + 1
        · have hk0 : (0 : Int) ≤ k := by omega
          have hk3 : (k : Int) < 3 := by omega
          have g0 := cell_of_heap hrel.blk (i := 0) rfl
          have gk := hrel.cell k (by omega)
          have fk := frozen_of_heap hrel.blk (i := 1 + k)
          have hbw := lt_of_obj hrel.blk
          have Hr := Lib.hid hrel
          clear hrel hr fr h4
          go_wp2
          go_region
          go_wp2
          exact ⟨⟨k + 1, by omega, by go_num, Hr.out.step hb2 (by omega)⟩, by simp [intOf]; omega⟩
        · have g0 := cell_of_heap hrel.blk (i := 0) rfl
          have g4 := cell_of_heap hrel.blk (i := 4) rfl
          have n0 := cell_of_heap hrel.key (i := 0) rfl
          have n1 := cell_of_heap hrel.key (i := 1) rfl
          have n2 := cell_of_heap hrel.key (i := 2) rfl
          have m0 := cell_of_heap hrel.val (i := 0) rfl
          have m1 := cell_of_heap hrel.val (i := 1) rfl
          have Hr := Lib.hid hrel
          have hnb : NotE 3 w b := NotE.of_heap Hblk.out (by simp)
          have hne := Hs.out.ne
          have hbm := Hs.out.map.lt
          clear hrel hr fr h4
          go_wp2
          go_region_held3 (fun w' => w'.cell? ⟨b, 0, none⟩ = some (.int .i64 (S.rev + 1)) ∧ w'.cell? ⟨b, 4, none⟩ = some (.map (some bm)) ∧ w'.cell? ⟨w.heap.size, 0, none⟩ = some (.int .i64 0) ∧ w'.cell? ⟨w.heap.size, 1, none⟩ = some (.int .i64 k2) ∧ w'.cell? ⟨w.heap.size, 2, none⟩ = some (.int .i64 k3) ∧ w'.cell? ⟨w.heap.size + 1, 0, none⟩ = some (.slice av xs.length cv) ∧ w'.cell? ⟨w.heap.size + 1, 1, none⟩ = some (.string tx))
            (first | (go_keep; done) | (refine ⟨?_, ?_, ?_, ?_, ?_, ?_, ?_⟩ <;> (rw [hc2.cell (by have := Hr.out.size; simp only [heap_drew]; omega) (by simp)]; simp [go_sem, *]; done)) | (refine ⟨?_, ?_, ?_, ?_, ?_, ?_, ?_⟩ <;> (rw [cell_setBlock (by simp; omega)]; rw [hc2.cell (by have := Hr.out.size; simp only [heap_drew]; omega) (by simp)]; simp [go_sem, *]; done)))
            ((go_at_call 73; refine (inputsClone _ _ _ xs (Hv.out.kept Hr.out.chg.drew (by simpa using hnb)) hx).mono ?_; rintro e w2 ⟨a1, c1, rfl, hi1, hn1, hc2⟩; obtain ⟨o, hupd, hmap⟩ := ((Hs.out.map.kept Hr.out.chg (by simpa using Ne.symm hne)).kept (Chg.drew (Chg.refl [] _) |>.new hc2) (by simp)).update qkeyed qk_inj Try.underlying139 (qkOk Hk.out) (CV.val ⟨a1, c1, xs, tx, S.rev + 1, du⟩); simp only [CV.val] at hupd; unfold qk at hupd))
          go_wp2
          go_ret2
          have hfin := set_end (m := du0) Hs.out Hr.out ((Chg.refl [] wr).drew.new hc2) hi1 hx hmap (by omega) (by omega)
          refine ⟨a1, c1, rfl, ?_, hfin.2, fun ad ha => by have h1 := hn1 ad ha; have h2 := Hr.out.size; have h3 : wr.drew.heap.size = wr.heap.size := rfl; omega⟩
          rw [← Hc.out, Int.max_eq_left (Int.le_of_lt hgt0)]
          exact hfin.1
end Go.Proofs.Ytggiddhhbilcjaa.Inp
/- Set as one contract; the helpers of the laws over the inputs store (Mod, inputKey, number, storeExample). -/
namespace Go.Proofs.Ytggiddhhbilcjaa.Inp
open Go.RowKit Go.ChangeMaps Go.MapKept

/-- what Set makes of the store: nothing, or the new cell -/
def SetRel (S : St) (k : QK) (xs : List Int) (tx : ByteArray) (du : Int) (ch : Bool) (S' : St) : Prop :=
  (ch = false ∧ S' = S ∧ S.same k xs tx du) ∨ (ch = true ∧ ¬ S.same k xs tx du ∧ ∃ a cap, S' = S.set k ⟨a, cap, xs, tx, S.rev + 1, du⟩ (max (S.at k).du du))
def SetPost (b bm : Nat) (S : St) (k : QK) (xs : List Int) (tx : ByteArray) (du : Int) (w : World) (e : Ending) (w' : World) : Prop :=
  ∃ ch S', e = .returned (.tuple #[.bool ch, .int .i64 0]) ∧ StoreIs w' b bm S' ∧ Chg [b, bm] w w' ∧ SetRel S k xs tx du ch S'
theorem set_any (b bm : Nat) (S : St) (k : QK) (v : Value) (xs : List Int) (tx : ByteArray) (du : Int) (w : World) (h : StoreIs w b bm S) (hk : QKok k) (h0 : k.1 = 0) (hv : Ints w v xs) (hx : xs.length * 8 ≤ 140737488355328) (hdu : 0 ≤ du ∧ du < 3) (hdo : 0 ≤ (S.at k).du ∧ (S.at k).du < 3) (hrev : 0 ≤ S.rev ∧ S.rev < 4611686018427387904) :
    Calls Try.prog 54 #[.pointer (some ⟨b, 0, none⟩), qk k, .agg #[v, .string tx], .int .i64 du] w (SetPost b bm S k xs tx du w) := by
  by_cases hs : S.same k xs tx du
  · exact (set_same b bm S k v xs tx du w h hk h0 hv hdu hs).mono fun e w' ⟨he, h1, h2⟩ => ⟨false, S, he, h1, h2.nil, Or.inl ⟨rfl, rfl, hs⟩⟩
  · exact (set_new b bm S k v xs tx du w h hk h0 hv hx hdu hdo hrev hs).mono fun e w' ⟨a, cap, he, h1, h2, _⟩ => ⟨true, _, he, h1, h2, Or.inr ⟨rfl, hs, a, cap, rfl⟩⟩

/-! ### the laws' helpers -/
/-- the reference's Mod -/
def modI (n m : Int) : Int := n.tmod m + (if n.tmod m < 0 then m else 0)
theorem modI_eq (n m : Int) (hm : 1 ≤ m) : modI n m = n % m := by
  unfold modI
  rw [Int.tmod_eq_emod]
  have h1 := Int.emod_nonneg n (by omega : m ≠ 0)
  have h2 := Int.emod_lt_of_pos n (by omega : 0 < m)
  split <;> split <;> omega
theorem modI_bd (n m : Int) (hm : 1 ≤ m) : 0 ≤ modI n m ∧ modI n m < m := by
  rw [modI_eq n m hm]
  exact ⟨Int.emod_nonneg n (by omega), Int.emod_lt_of_pos n (by omega)⟩
set_option maxHeartbeats 400000 in
theorem mod_any (n m : Int) (w : World) (hm : 1 ≤ m) (hm2 : m ≤ 9223372036854775807)  :
    Calls Try.prog 9 #[.int .i64 n, .int .i64 m] w fun e w' => e = .returned (.int .i64 (modI n m)) ∧ w = w' := by
  have h1 := Int.tmod_lt_of_pos n (by omega : 0 < m)
  have h2 : -m < n.tmod m := by
    rw [Int.tmod_eq_emod]
    have h1 := Int.emod_nonneg n (by omega : m ≠ 0)
    by_cases hc : 0 ≤ n ∨ m ∣ n
    · rw [if_pos hc]; omega
    · have h3 : n % m ≠ 0 := fun e => hc (Or.inr (Int.dvd_of_emod_eq_zero e))
      rw [if_neg hc]; omega
  go_enter Try.func9, Try.ntmps9
  go_wp2
  · go_ret
    rename_i hlt
    exact ⟨ret_int (by unfold modI; rw [if_pos hlt]), rfl⟩
  · go_ret
    rename_i hlt
    exact ⟨ret_int (by unfold modI; rw [if_neg (by omega)]; omega), rfl⟩
set_option maxHeartbeats 400000 in
theorem inputKey_any (n : Int) (w : World) :
    Calls Try.prog 14 #[.int .i64 n] w fun e w' => e = .returned (.agg #[.int .i64 0, .int .i64 n, .int .i64 0]) ∧ Chg [] w w' := by
  go_enter Try.func14, Try.ntmps14
  go_wp2
  exact bodyPost_ret (v := .agg #[.int .i64 0, .int .i64 n, .int .i64 0]) (by simp [results, Try.results14, go_sem]) rfl ⟨rfl, (Chg.refl [] w).alloc _⟩
set_option maxHeartbeats 400000 in
theorem number_any (n : Int) (w : World) :
    Calls Try.prog 15 #[.int .i64 n] w fun e w' => ∃ a c, e = .returned (.agg #[.slice a 1 c, .string ⟨#[]⟩]) ∧ Ints w' (.slice a 1 c) [n] ∧ Chg [] w w' := by
  go_enter Try.func15, Try.ntmps15
  go_wp2
  refine bodyPost_ret (v := .agg #[.slice (some ⟨w.heap.size + 1, 0, none⟩) 1 1, .string ⟨#[]⟩]) (by simp [results, Try.results15, go_sem]) rfl ⟨_, _, rfl, ?_, ((Chg.refl [] w).alloc _).alloc _⟩
  refine Or.inr ⟨w.heap.size + 1, 0, 1, #[.int .i64 n], (0, 0), rfl, by simp, by unfold maxLen; omega, heap_at _ _ _ (by simp), ?_⟩
  intro i hi
  obtain rfl : i = 0 := by simpa using hi
  rfl
end Go.Proofs.Ytggiddhhbilcjaa.Inp
/- The contract of the inputs store's Fork. -/
namespace Go.Proofs.Ytggiddhhbilcjaa.Inp
open Go.RowKit Go.ChangeMaps Go.MapKept
section
variable {P : Program} (w : World)
theorem run_equalIn_map_nil' (d : Nat) (t k e : TypeId) (p : Option Nat) (h : P.underlying t = some (.map k e)) : (Op.equalIn (d + 1) t (.map p) (.map none)).run P w = .ok p.isNone w := by
  cases p <;> simp [Op.equalIn, run_underlying h]
theorem run_eql_map_nil' (t k e : TypeId) (p : Option Nat) (h : P.underlying t = some (.map k e)) : (binOp .eql t (.map p) (.map none)).run P w = .ok (.bool p.isNone) w := by
  simp only [binOp]
  simp [show Op.equal t (.map p) (.map none) = Op.equalIn (9999 + 1) t (.map p) (.map none) from rfl, run_equalIn_map_nil' w 9999 t k e p h]
theorem run_typeAssert_map' (t xT k e : TypeId) (v : Value) (h : P.underlying t = some (.map k e)) : (Instr.typeAssert (.iface t v) xT t false).run P w = .ok v w := by
  simp [Instr.typeAssert, run_underlying h, go_sem, Result.andThen]
theorem run_maps_clone' {r : Nat} {es : Array MapEntry} {clock : Nat} (t : TypeId) (hb : w.heap[r]? = some (.map es clock)) :
    (Extern.MapsClone.clone #[.iface t (.map (some r))]).run P w = .ok (.iface t (.map (some w.heap.size))) (w.alloc (.map es clock)) := by
  have e : Extern.MapsClone.clone #[.iface t (.map (some r))] = (getObj r >>= fun o => match o with
      | .map entries clock => (newObj (.map entries clock) >>= fun n => pure (.iface t (.map (some n))))
      | _ => stuck "maps.clone: a map expected") := rfl
  rw [e]
  simp [MapKept.run_getObj_map hb, Result.andThen, go_sem]
end
theorem MapAt.cloned {P : Program} {K : Type} {kt : TypeId} {ek : K → Value} {w : World} {b : Nat} {es : List (K × Value)} (h : MapAt P kt ek w b es) : ∃ arr clock, w.heap[b]? = some (.map arr clock) ∧ MapAt P kt ek (w.alloc (.map arr clock)) w.heap.size es := by
  obtain ⟨arr, clock, h1, h2⟩ := h
  exact ⟨arr, clock, h1, arr, clock, heap_alloc_new w _, h2⟩
end Go.Proofs.Ytggiddhhbilcjaa.Inp
