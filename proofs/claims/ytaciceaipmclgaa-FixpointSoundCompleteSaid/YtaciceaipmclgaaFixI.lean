/- Equal; the fixed example. -/
import Derived.Test.YtaciceaipmclgaaFixH
namespace Go.Proofs.Ytaciceaipmclgaa
open Go.RowKit
set_option linter.unusedVariables false
set_option maxHeartbeats 1000000 in
theorem equal_any (p q : Nat → Prop) (w : World) (v u : Value) (xs ys : List Nat) (hx : Nums p w v xs) (hy : Nums q w u ys) :
    Calls Try.prog 13 #[v, u] w fun e w' => e = .returned (.bool (decide (xs = ys))) ∧ w' = w := by
  obtain ⟨a, cap, rfl, hl1, hl2, hc⟩ := hx
  obtain ⟨b, capb, rfl, hb1, hb2, hd⟩ := hy
  unfold maxLen at hl2 hb2
  have Hc := Lib.hid hc
  have Hd := Lib.hid hd
  clear hc hd
  by_cases hlen : xs.length = ys.length
  · have hn0 : ((xs.length : Int) != (ys.length : Int)) = false := by rw [hlen]; simp
    have Hlen := Lib.hid hlen
    have hle : xs.length ≤ ys.length := by omega
    clear hlen
    go_enter Try.func13, Try.ntmps13
    go_wp2
    go_loop [14] (fun i => ∃ k : Nat, k ≤ xs.length ∧ i = .int .i64 (k : Nat) ∧ ∀ j, j < k → xs.getD j 0 = ys.getD j 0) (fun i => xs.length - (intOf i).toNat)
    case atStart => exact ⟨0, by omega, rfl, fun j hj => absurd hj (by omega)⟩
    case round =>
      obtain ⟨k, hk, rfl, hn⟩ := hrel
      have Hn := Lib.hid hn
      clear hn
      by_cases hlt : k < xs.length
      · obtain ⟨g, off, rfl, _, hcell⟩ := Hc.out (by omega)
        have q0 : _ = some (nv (xs.getD k 0)) := hcell k hlt
        obtain ⟨g', off', rfl, _, hcell'⟩ := Hd.out (by omega)
        have q1 : _ = some (nv (ys.getD k 0)) := hcell' k (by omega)
        clear hcell hcell'
        unfold nv at q0 q1
        obtain ⟨x, hx⟩ : ∃ x, xs.getD k 0 = x := ⟨_, rfl⟩
        obtain ⟨y, hy⟩ : ∃ y, ys.getD k 0 = y := ⟨_, rfl⟩
        rw [hx] at q0
        rw [hy] at q1
        have Hx := Lib.hid hx
        have Hy := Lib.hid hy
        clear hx hy
        have hk1 : (k : Int) < xs.length := by omega
        have hk2 : (k : Int) < ys.length := by omega
        by_cases hxy : x = y
        · have hb : ((x : Int) != (y : Int)) = false := by rw [hxy]; simp
          have Hxy := Lib.hid hxy
          clear hxy
          go_wp2
          exact ⟨⟨k + 1, by omega, by go_num, fun j hj => by
            by_cases e : j = k
            · subst e; rw [Hx.out, Hy.out, Hxy.out]
            · exact Hn.out j (by omega)⟩, by simp [intOf]; omega⟩
        · have hb : ((x : Int) != (y : Int)) = true := by rw [bne_iff_ne]; omega
          have hne : decide (xs = ys) = false := decide_eq_false fun e => hxy (by rw [← Hx.out, ← Hy.out, e])
          have Hne := Lib.hid hne
          clear hxy hne
          go_wp2
          go_ret
          exact ⟨by rw [Hne.out]; rfl, rfl⟩
      · obtain rfl : k = xs.length := by omega
        have he : decide (xs = ys) = true := decide_eq_true (List.ext_getElem Hlen.out fun i h1 h2 => by
          have := Hn.out i h1
          simpa [h1, h2] using this)
        have He := Lib.hid he
        clear he
        go_wp2
        go_ret
        exact ⟨by rw [He.out]; rfl, rfl⟩
  · have hn0 : ((xs.length : Int) != (ys.length : Int)) = true := by rw [bne_iff_ne]; omega
    have hne : decide (xs = ys) = false := decide_eq_false fun e => hlen (by rw [e])
    have Hne := Lib.hid hne
    clear hlen hne
    go_enter Try.func13, Try.ntmps13
    go_wp2
    go_ret
    exact ⟨by rw [Hne.out]; rfl, rfl⟩
/-! ### the fixed example -/
def exR : Rules := [[(1, []), (6, [1])], [(3, [0])]]
theorem exR_ok : Okr exR := ⟨by decide, by decide, by decide, by decide, by decide⟩
theorem exR_lst : Lst exR [1, 1] := by
  refine ⟨rfl, by simp [univ], (solB_iff exR_ok (by simp [univ])).1 (by decide), fun T hT i => ?_⟩
  have h0 : sub 1 (T.getD 0 0) := hT 0 (by decide) (1, []) (by simp [exR])
  have h1 : sub (3 &&& T.getD 0 0) (T.getD 1 0) := hT 1 (by decide) (3, [0]) (by simp [exR])
  match i with
  | 0 => exact h0
  | 1 =>
    refine sub.trans (fun k hk => ?_) h1
    have := h0 k hk
    rw [Nat.testBit_and, this, Bool.and_true]
    revert hk
    match k with
    | 0 => decide
    | 1 => decide
    | k + 2 => intro hk; simp [Nat.testBit_succ] at hk
  | i + 2 => exact sub_zero _
/-- the world in which the example lies -/
def exW (w : World) : World := (((((w.alloc (.cells #[.int .i64 1] 3)).alloc (.cells #[.int .i64 1, .slice none 0 0, .int .i64 6, .slice (some ⟨w.heap.size, 0, none⟩) 1 1] 31)).alloc (.cells #[.int .i64 0] 3)).alloc
  (.cells #[.int .i64 3, .slice (some ⟨w.heap.size + 1 + 1, 0, none⟩) 1 1] 31)).alloc (.cells #[.slice (some ⟨w.heap.size + 1, 0, none⟩) 2 2, .slice (some ⟨w.heap.size + 1 + 1 + 1, 0, none⟩) 1 1] 39))
theorem exW_cells (w : World) : (exW w).heap[w.heap.size]? = some (.cells #[.int .i64 1] 3) ∧ (exW w).heap[w.heap.size + 1]? = some (.cells #[.int .i64 1, .slice none 0 0, .int .i64 6, .slice (some ⟨w.heap.size, 0, none⟩) 1 1] 31) ∧
    (exW w).heap[w.heap.size + 1 + 1]? = some (.cells #[.int .i64 0] 3) ∧ (exW w).heap[w.heap.size + 1 + 1 + 1]? = some (.cells #[.int .i64 3, .slice (some ⟨w.heap.size + 1 + 1, 0, none⟩) 1 1] 31) ∧
    (exW w).heap[w.heap.size + 1 + 1 + 1 + 1]? = some (.cells #[.slice (some ⟨w.heap.size + 1, 0, none⟩) 2 2, .slice (some ⟨w.heap.size + 1 + 1 + 1, 0, none⟩) 1 1] 39) := by
  unfold exW World.alloc
  refine ⟨?_, ?_, ?_, ?_, ?_⟩ <;> (simp only [Array.getElem?_push, Array.size_push]; repeat (first | rw [if_pos trivial] | rw [if_neg (by omega)]))
theorem ints_one {p : Nat → Prop} {w : World} {g : Nat} {x : Int} (hp : p g) (h : w.heap[g]? = some (.cells #[.int .i64 x] 3)) : Ints p w (.slice (some ⟨g, 0, none⟩) 1 1) [x] :=
  ⟨_, _, rfl, Nat.le_refl _, by unfold maxLen; simp, fun _ => ⟨g, 0, rfl, hp, fun j hj => by
    obtain rfl : j = 0 := by simpa using hj
    exact cell_of_heap h rfl⟩⟩
theorem exW_rules (w : World) : RulesAt (fun g => g < w.heap.size + 5) (exW w) (.slice (some ⟨w.heap.size + 1 + 1 + 1 + 1, 0, none⟩) 2 2) exR := by
  obtain ⟨h0, h1, h2, h3, h4⟩ := exW_cells w
  have hm : ∀ n : Nat, n ≤ 2 → n ≤ maxLen := fun n hn => by unfold maxLen; omega
  have hnil : ∀ p : Nat → Prop, Ints p (exW w) (.slice none 0 0) [] := fun p => ⟨none, 0, rfl, Nat.le_refl _, hm _ (by simp), fun h => absurd h (by simp)⟩
  refine ⟨_, _, rfl, Nat.le_refl _, hm _ (by decide), fun _ => ⟨_, 0, rfl, by simp, fun i hi => ?_⟩⟩
  have hi' : i < 2 := hi
  match i, hi' with
  | 0, _ =>
    refine ⟨_, cell_of_heap h4 rfl, _, _, rfl, Nat.le_refl _, hm _ (by decide), fun _ => ⟨_, 0, rfl, by omega, fun j hj => ?_⟩⟩
    have hj' : j < 2 := hj
    match j, hj' with
    | 0, _ => exact ⟨cell_of_heap h1 rfl, _, cell_of_heap h1 rfl, hnil _⟩
    | 1, _ => exact ⟨cell_of_heap h1 rfl, _, cell_of_heap h1 rfl, ints_one (by omega) h0⟩
  | 1, _ =>
    refine ⟨_, cell_of_heap h4 rfl, _, _, rfl, Nat.le_refl _, hm _ (by decide), fun _ => ⟨_, 0, rfl, by omega, fun j hj => ?_⟩⟩
    have hj' : j < 1 := hj
    match j, hj' with
    | 0, _ => exact ⟨cell_of_heap h3 rfl, _, cell_of_heap h3 rfl, ints_one (by omega) h2⟩
theorem exW_chg (w : World) : Chg [] w (exW w) := (((((Chg.refl [] w).alloc _).alloc _).alloc _).alloc _).alloc _
theorem SetsAt.nums {w0 w : World} {v : Value} {S : List Nat} (h : SetsAt w0 w v S) (hm : S.length ≤ 60) : Nums (fun _ => True) w v S := by
  obtain ⟨gs, rfl, h1, h2⟩ := h
  exact ⟨_, _, rfl, Nat.le_refl _, by unfold maxLen; omega, fun _ => ⟨gs, 0, rfl, trivial, fun j hj => by rw [Nat.zero_add]; exact h2.cell hj⟩⟩
set_option maxHeartbeats 1000000 in
theorem ruleExample_any (w : World) : Calls Try.prog 6 #[] w fun e w' => e = .returned (.bool true) ∧ Chg [] w w' := by
  go_enter Try.func6, Try.ntmps6
  go_wp2_with fail
  refine (least_any _ _ exR _ (exW_rules w) (fun k hk => by simpa [exW] using hk)).mono ?_
  rintro e w1 ⟨h | h, c1⟩
  · obtain ⟨_, v, S, rfl, hl, hs⟩ := h
    obtain rfl : S = [1, 1] := hl.unique exR_lst
    have hc : Chg [] w w1 := (exW_chg w).trans c1
    have Hs := Lib.hid (hs.nums (by simp))
    clear hl hs c1
    go_wp2_with fail
    refine (equal_any (fun _ => True) (fun _ => True) _ v _ [1, 1] [1, 1] (Hs.out.kept ((Chg.refl [] w1).alloc _) (fun _ h => by cases h)) ⟨_, _, rfl, Nat.le_refl _, by unfold maxLen; decide, fun _ => ⟨_, 0, rfl, trivial, fun j hj => ?_⟩⟩).mono ?_
    · have hj' : j < 2 := hj
      match j, hj' with
      | 0, _ => exact cell_of_heap (heap_at _ _ _ rfl) rfl
      | 1, _ => exact cell_of_heap (heap_at _ _ _ rfl) rfl
    · rintro e w2 ⟨rfl, rfl⟩
      rw [decide_eq_true rfl]
      go_wp2
      go_ret
      exact ⟨rfl, hc.alloc _⟩
  · exact absurd exR_ok h.1
end Go.Proofs.Ytaciceaipmclgaa
