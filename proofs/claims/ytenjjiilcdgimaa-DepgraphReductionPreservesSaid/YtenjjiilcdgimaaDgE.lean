/- slices.Insert at keys: no room; depgraph.insert. -/
import Derived.Test.YtenjjiilcdgimaaDgD
namespace Go.Proofs.Ytenjjiilcdgimaa
open Go.RowKit Go.ChangeMaps Go.MapKept Go.Shelf
set_option linter.unusedVariables false
set_option linter.unusedSimpArgs false
theorem zeroCells_len (n : Nat) : (Builtin.zeroCells (Value.agg #[.int .i64 0, .int .i64 0, .int .i64 0]).cells n).size = n * 3 := by
  simp [Builtin.zeroCells, Value.cells]
set_option maxRecDepth 100000 in
set_option maxHeartbeats 4000000 in
/-- in the middle, no room -/
theorem insGrow_any (w : World) (B g cap : Nat) (l : List I3) (k : I3) (i : Nat) (vb : Nat) (h : OwnK w B (.slice (some ⟨g, 0, none⟩) l.length cap) l) (hl : l.length ≤ 1000) (hil : i < l.length) (hroom : cap < l.length + 1) (hvb : w.heap[vb]? = some (.cells #[.int .i64 k.1, .int .i64 k.2.1, .int .i64 k.2.2] 24 (0, 0))) (hne : vb ≠ g) (hB : B ≤ w.heap.size) :
    Calls Try.prog 34 #[.slice (some ⟨g, 0, none⟩) l.length cap, .int .i64 (i : Nat), .slice (some ⟨vb, 0, none⟩) 1 1] w (InsPost w B (.slice (some ⟨g, 0, none⟩) l.length cap) l k i) := by
  obtain ⟨cur, hge, hh, h3, h4, h5, h6⟩ : ∃ cur, B ≤ g ∧ w.heap[g]? = some (.cells cur 24 (0, 0)) ∧ l.length ≤ cap ∧ cap ≤ maxLen ∧ cur.size = cap * 3 ∧ cur.toList.take (l.length * 3) = kCells l := by
    rcases h.2 with ⟨hv, hx⟩ | ⟨g', cap', cur', hv, hge, hh, h3, h4, h5, h6⟩
    · omega
    · cases hv; exact ⟨cur', hge, hh, h3, h4, h5, h6⟩
  obtain rfl : cap = l.length := by omega
  obtain ⟨i0, hi, hz0, hz1, hz2⟩ := info_parts Try.infoK
  have hgw := lt_of_obj hh
  have hvw := lt_of_obj hvb
  have hlist : ∀ j v, (kCells l)[j]? = some v → w.cell? ((⟨g, 0, none⟩ : Addr).add j) = some v := by
    intro j v hj
    rw [Addr.add_lit, Nat.zero_add]
    refine cell_of_heap hh ?_
    rw [← h6, List.getElem?_take] at hj
    split at hj
    · simpa using hj
    · cases hj
  have hold : (Builtin.firstCells i0.size i (.slice (some ⟨g, 0, none⟩) i l.length)).run Try.prog w.drew = .ok (kCells (l.take i)).toArray w.drew := by
    rw [hz1]
    exact run_firstCells_some w.drew 3 i ⟨g, 0, none⟩ i l.length (kCells (l.take i)) (by rw [kCells_len, List.length_take]; omega) (fun j v hj => by
      refine hlist j v ?_
      rw [← List.take_append_drop i l, kCells_append, List.getElem?_append_left ((List.getElem?_eq_some_iff.1 hj).1)]
      exact hj)
  have hkk : (l.length : Int) + 1 - (i : Int) = ((l.length + 1 - i : Nat) : Int) := by omega
  have hik : i + (l.length + 1 - i) = l.length + 1 := by omega
  obtain ⟨G, hG⟩ : ∃ G, G = grownCap w (l.length + 1) l.length 24 := ⟨_, rfl⟩
  obtain ⟨Z, hZ⟩ : ∃ Z : Array Value, Z = Builtin.zeroCells (Value.agg #[.int .i64 0, .int .i64 0, .int .i64 0]).cells (l.length + 1 - i) ++ Builtin.zeroCells (Value.agg #[.int .i64 0, .int .i64 0, .int .i64 0]).cells (G - (l.length + 1)) := ⟨_, rfl⟩
  have hGn : l.length + 1 ≤ G := by rw [hG]; exact grownCap_ge w _ _ _
  have hGm : G ≤ maxLen := by rw [hG]; exact grownCap_le_maxLen w (l.length + 1) l.length 24 (by unfold maxLen; omega)
  have hZl : Z.size = (G - i) * 3 := by rw [hZ, Array.size_append, zeroCells_len, zeroCells_len]; omega
  have hA : (kCells (l.take i)).length = i * 3 := by rw [kCells_len, List.length_take]; omega
  have hBl : (kCells (l.drop i)).length = (l.length - i) * 3 := by rw [kCells_len, List.length_drop]
  obtain ⟨W1, hW1⟩ : ∃ x, x = w.drew.alloc (.cells ((kCells (l.take i)).toArray ++ Z) 24) := ⟨_, rfl⟩
  have hr0 : ∀ ty, (Builtin.append_ #[26, 3] ty #[.slice (some ⟨g, 0, none⟩) i l.length, .int .i64 ((l.length : Int) + 1 - (i : Int))]).run Try.prog w = .ok (.slice (some ⟨w.heap.size, 0, none⟩) (l.length + 1) G) W1 := by
    intro ty
    have h := Lib.run_append_grow_zeros w 26 3 ty 24 i0 _ .i64 .i64 Try.underlying26 Try.underlying3 hi hz0 (some ⟨g, 0, none⟩) i l.length (kCells (l.take i)) hold (l.length + 1 - i) (by omega) (by omega) (by omega) (by omega) (by rw [hz2]; omega) (by rw [hz2, hik]; exact growslice_fits (by omega) (by omega))
    rw [hik, ← hG, Array.append_assoc, ← hZ, ← hW1] at h
    rw [hkk]
    exact h
  have hb1 : W1.heap[w.heap.size]? = some (.cells ((kCells (l.take i)).toArray ++ Z) 24 (0, 0)) := by rw [hW1]; exact heap_at _ _ _ rfl
  have hc1 : Chg [] w W1 := by rw [hW1]; exact ((Chg.refl [] w).drew).alloc _
  obtain ⟨C1, hC1⟩ : ∃ C1, C1 = kCells (l.take i) ++ [Value.int .i64 k.1, Value.int .i64 k.2.1, Value.int .i64 k.2.2] ++ Z.toList.drop 3 := ⟨_, rfl⟩
  have hC1l : C1.length = G * 3 := by rw [hC1]; simp only [List.length_append, List.length_cons, List.length_nil, List.length_drop, Array.length_toList]; omega
  obtain ⟨W2, hW2⟩ : ∃ x, x = W1.setRow w.heap.size C1.toArray := ⟨_, rfl⟩
  have hr1 : ∀ ty dc, (Builtin.copy_ #[26, 26] ty #[.slice (some ⟨w.heap.size, i * 3, none⟩) (l.length + 1 - i) dc, .slice (some ⟨vb, 0, none⟩) 1 1]).run Try.prog W1 = .ok (goInt 1) W2 := by
    intro ty dc
    rw [run_copy_rowK (P := Try.prog) W1 _ _ ty 24 3 w.heap.size (i * 3) _ dc 1 ⟨vb, 0, none⟩ 1 1 _ 24 [.int .i64 k.1, .int .i64 k.2.1, .int .i64 k.2.2] Try.underlying26 sizeK' hb1 (by simp only [Nat.min_def]; split <;> omega) rfl (news_of ((hc1.block _ hvw (by simp)).trans hvb)) (by simp [hA, hZl]; omega) (by simp [Value.oneCell'])]
    have e : ((kCells (l.take i)).toArray ++ Z).toList.take (i * 3) ++ [Value.int .i64 k.1, Value.int .i64 k.2.1, Value.int .i64 k.2.2] ++ ((kCells (l.take i)).toArray ++ Z).toList.drop (i * 3 + 3) = C1 := by
      rw [hC1, Array.toList_append, List.take_left' hA]
      congr 1
      rw [← hA, List.drop_length_add_append]
    show Result.ok (goInt 1) (W1.setRow w.heap.size (((kCells (l.take i)).toArray ++ Z).toList.take (i * 3) ++ [Value.int .i64 k.1, Value.int .i64 k.2.1, Value.int .i64 k.2.2] ++ ((kCells (l.take i)).toArray ++ Z).toList.drop (i * 3 + 3)).toArray) = _
    rw [e, hW2]
  have hb2 : W2.heap[w.heap.size]? = some (.cells C1.toArray 24 (0, 0)) := by rw [hW2]; exact setRow_heap W1 _ _ _ 24 (0, 0) hb1
  have hc2 : Chg [] w W2 := by rw [hW2]; exact hc1.comp (setRow_chg W1 _ _) (by simp)
  obtain ⟨C2, hC2⟩ : ∃ C2, C2 = kCells (l.take i) ++ [Value.int .i64 k.1, Value.int .i64 k.2.1, Value.int .i64 k.2.2] ++ kCells (l.drop i) ++ (Z.toList.drop 3).drop ((l.length - i) * 3) := ⟨_, rfl⟩
  have hC2l : C2.length = G * 3 := by rw [hC2]; simp only [List.length_append, List.length_cons, List.length_nil, List.length_drop, Array.length_toList]; omega
  obtain ⟨W3, hW3⟩ : ∃ x, x = W2.drew.setRow w.heap.size C2.toArray := ⟨_, rfl⟩
  have hr2 : ∀ ty dc sc, (Builtin.copy_ #[26, 26] ty #[.slice (some ⟨w.heap.size, (i + 1) * 3, none⟩) (l.length - i) dc, .slice (some ⟨g, i * 3, none⟩) (l.length - i) sc]).run Try.prog W2.drew = .ok (goInt ((l.length - i : Nat) : Int)) W3 := by
    intro ty dc sc
    rw [run_copy_rowK (P := Try.prog) W2.drew _ _ ty 24 3 w.heap.size ((i + 1) * 3) _ dc (l.length - i) ⟨g, i * 3, none⟩ _ sc C1.toArray 24 (kCells (l.drop i)) Try.underlying26 sizeK' hb2 (by simp) hBl (fun j v hj => by
      have hg2 : W2.drew.heap[g]? = w.heap[g]? := hc2.block _ hgw (by simp)
      rw [Addr.add_lit]
      have := hlist (i * 3 + j) v (by rw [← List.take_append_drop i l, kCells_append, List.getElem?_append_right (by omega), hA, show i * 3 + j - i * 3 = j by omega]; exact hj)
      rw [Addr.add_lit, Nat.zero_add] at this
      exact (World.cell?_of_block (w := w) (a := ⟨g, i * 3 + j, none⟩) hg2).trans this) (by simp; omega) (kCells_oneCell _)]
    have e : C1.take ((i + 1) * 3) ++ kCells (l.drop i) ++ C1.drop ((i + 1) * 3 + (kCells (l.drop i)).length) = C2 := by
      have hAK : (kCells (l.take i) ++ [Value.int .i64 k.1, Value.int .i64 k.2.1, Value.int .i64 k.2.2]).length = (i + 1) * 3 := by simp [hA]; omega
      rw [hC1, List.take_left' hAK, hC2, hBl]
      congr 1
      rw [← hAK, List.drop_length_add_append]
    rw [hW3, ← e]
  have hb3 : W3.heap[w.heap.size]? = some (.cells C2.toArray 24 (0, 0)) := by rw [hW3]; exact setRow_heap W2.drew _ _ _ 24 (0, 0) hb2
  have hc3 : Chg [] w W3 := by rw [hW3]; exact (hc2.drew).comp (setRow_chg W2.drew _ _) (by simp)
  have Hfin := Lib.hid (And.intro hb3 (And.intro hc3 (And.intro hC2l (And.intro hC2 (And.intro hGn hGm)))))
  have HB := Lib.hid hB
  have hz2' : ¬ ((i : Int) = (l.length : Int)) := by omega
  have hi1 : (i : Int) ≤ l.length := by omega
  have hz3 : (l.length : Int) < (l.length : Int) + 1 := by omega
  have hi5 : ¬ (l.length = i) := by omega
  have hG1 : ¬ (G = i) := by omega
  have hG2 : ¬ (G = i + 1) := by omega
  have hGi : l.length + 1 ≤ G := hGn
  have hw1 : IntKind.i64.wrap ((i : Int) + 1) = (i : Int) + 1 := IntWalk.i64_in _ (by omega)
  have hbb : (0 : Int) ≤ (i : Int) + 1 := by omega
  have htn : ((i : Int) + 1).toNat = i + 1 := by omega
  have hi4 : (i : Int) + 1 ≤ (l.length : Int) + 1 := by omega
  have hi2 : (i : Int) ≤ (l.length : Int) + 1 := by omega
  unfold maxLen at hGm
  have hG3 : (G : Int) ≤ 9223372036854775807 := by omega
  clear hW1 hW2 hW3 hb1 hc1 hb2 hc2 hb3 hc3 hC1 hC1l hC2 hC2l hZ hZl hold hlist hkk hik hG hi hz0 hz1 hz2 h hh hvb hBl hA h6 h5 hge hB
  go_enter Try.func34, Try.ntmps34
  go_wp2_with (at_builtin; refine Lib.wpList_append_run _ rfl _ _ _ _ rfl _ _ rfl rfl _ _ (hr0 _) ?_)
  go_region
  all_goals
    go_wp2_with fail
    go_ret
    obtain ⟨f1, f2, f3, f4, f5, f6⟩ := Hfin.out
    have e1 : l.take i ++ k :: l.drop i = l.take i ++ [k] ++ l.drop i := by simp
    have e2 : (l.take i ++ [k] ++ l.drop i).length = l.length + 1 := by simp only [List.length_append, List.length_cons, List.length_nil, List.length_take, List.length_drop]; omega
    refine ⟨.slice (some ⟨w.heap.size, 0, none⟩) (l.length + 1) G, rfl, ?_, f2.nil, fun g' hg => Or.inr (by simp only [Value.ownBlock, Option.some.injEq] at hg; omega)⟩
    rw [e1]
    refine ⟨by rw [kCells_len], .inr ⟨w.heap.size, G, C2.toArray, by rw [e2], HB.out, f1, by omega, f6, by simpa using f3, ?_⟩⟩
    rw [kCells_append, kCells_append, kCells_one]
    have e3 : (l.take i ++ [k] ++ l.drop i).length * 3 = (kCells (l.take i) ++ [Value.int .i64 k.1, Value.int .i64 k.2.1, Value.int .i64 k.2.2] ++ kCells (l.drop i)).length := by
      simp only [List.length_append, List.length_cons, List.length_nil, kCells_len]; omega
    rw [e3]
    show C2.take _ = _
    rw [f4, List.take_left]
/-- slices.Insert, whatever the place -/
theorem ins_any (w : World) (B : Nat) (v : Value) (l : List I3) (k : I3) (i : Nat) (vb : Nat) (h : OwnK w B v l) (hl : l.length ≤ 1000) (hil : i ≤ l.length) (hvb : w.heap[vb]? = some (.cells #[.int .i64 k.1, .int .i64 k.2.1, .int .i64 k.2.2] 24 (0, 0))) (hne : v.ownBlock ≠ some vb) (hB : B ≤ w.heap.size) :
    Calls Try.prog 34 #[v, .int .i64 (i : Nat), .slice (some ⟨vb, 0, none⟩) 1 1] w (InsPost w B v l k i) := by
  by_cases he : i = l.length
  · subst he
    exact insEnd_any w B v l k vb h hl hvb hB
  · have hlt : i < l.length := by omega
    rcases h.2 with ⟨hv, hx⟩ | ⟨g, cap, cur, hv, _⟩
    · omega
    · subst hv
      have hne' : vb ≠ g := fun e => hne (by rw [e]; rfl)
      by_cases hr : l.length + 1 ≤ cap
      · exact insShift_any w B g cap l k i vb h hl hlt hr hvb hne' hB
      · exact insGrow_any w B g cap l k i vb h hl hlt (by omega) hvb hne' hB
def InsKPost (w : World) (B : Nat) (v : Value) (l : List I3) (k : I3) (e : Ending) (w' : World) : Prop :=
  ∃ v', e = .returned v' ∧ OwnK w' B v' (insK l k) ∧ Chg v.ownBlock.toList w w' ∧ ∀ g, v'.ownBlock = some g → v.ownBlock = some g ∨ w.heap.size ≤ g
set_option maxRecDepth 100000 in
set_option maxHeartbeats 4000000 in
theorem insertK_any (w : World) (B : Nat) (v : Value) (l : List I3) (k : I3) (h : OwnK w B v l) (hs : SortedK l) (hl : l.length ≤ 1000) (hB : B ≤ w.heap.size) :
    Calls Try.prog 26 #[v, i3v k] w (InsKPost w B v l k) := by
  obtain ⟨k0, k1, k2⟩ := k
  obtain ⟨a, cap, rfl⟩ := ownsRow_shape h
  obtain ⟨w1, hw1⟩ : ∃ x, x = w.alloc (.cells #[.int .i64 k0, .int .i64 k1, .int .i64 k2] 24) := ⟨_, rfl⟩
  have hc1 : Chg [] w w1 := by rw [hw1]; exact (Chg.refl [] w).alloc _
  have hb1 : w1.heap[w.heap.size]? = some (.cells #[.int .i64 k0, .int .i64 k1, .int .i64 k2] 24 (0, 0)) := by rw [hw1]; exact heap_at _ _ _ rfl
  obtain ⟨nb, hnb⟩ : ∃ n, n = w.heap.size := ⟨_, rfl⟩
  rw [← hnb] at hb1
  have h1 := h.same hc1
  have Hbs := Lib.hid (show ∀ W, Chg [] w1 W → Calls Try.prog 33 #[.slice a l.length cap, .agg #[.int .i64 k0, .int .i64 k1, .int .i64 k2], .func (.func 29) #[] #[]] W (BsPost l (k0, k1, k2) W) from fun W hW => bsearch_any _ W _ l (k0, k1, k2) (h1.same hW).i3s hs (by omega))
  have H1 := Lib.hid (And.intro h1 (And.intro hb1 (And.intro hc1 hnb)))
  have Hlt := Lib.hid (fun g hg => (h.lt g hg).2)
  have Hw1 := Lib.hid hw1
  have HB := Lib.hid hB
  have hpl := pos_le l (k0, k1, k2)
  clear h h1 hc1 hb1 hw1 hnb hB
  unfold i3v
  simp only
  go_enter Try.func26, Try.ntmps26
  go_wp2_with fail
  rw [← Hw1.out, ← H1.out.2.2.2]
  refine (Hbs.out _ (Chg.refl [] w1)).mono ?_
  rintro e w2 ⟨rfl, hc2⟩
  have hb2 := (hc2.block _ (lt_of_obj H1.out.2.1) (by simp)).trans H1.out.2.1
  have x0 : w2.cell? ⟨nb, 0, none⟩ = some (.int .i64 k0) := cell_of_heap hb2 rfl
  have x1 : w2.cell? ⟨nb, 1, none⟩ = some (.int .i64 k1) := cell_of_heap hb2 rfl
  have x2 : w2.cell? ⟨nb, 2, none⟩ = some (.int .i64 k2) := cell_of_heap hb2 rfl
  have lx := lt_of_cell x0
  have H2 := Lib.hid (And.intro (H1.out.1.same hc2) (H1.out.2.2.1.trans hc2))
  clear hc2 hb2
  by_cases hm : (k0, k1, k2) ∈ l
  · have hmt : decide ((k0, k1, k2) ∈ l) = true := decide_eq_true hm
    have hik : insK l (k0, k1, k2) = l := if_pos hm
    have Hik := Lib.hid hik
    clear hm hik
    go_wp2_with fail
    go_ret
    exact ⟨_, rfl, by rw [Hik.out]; exact H2.out.1, H2.out.2.nil, fun g hg => Or.inl hg⟩
  · have hmt : decide ((k0, k1, k2) ∈ l) = false := decide_eq_false hm
    have hik : insK l (k0, k1, k2) = l.take (posK l (k0, k1, k2)) ++ (k0, k1, k2) :: l.drop (posK l (k0, k1, k2)) := if_neg hm
    have Hik := Lib.hid hik
    obtain ⟨w3, hw3⟩ : ∃ x, x = w2.alloc (.cells #[.int .i64 k0, .int .i64 k1, .int .i64 k2] 24) := ⟨_, rfl⟩
    have hc3 : Chg [] w2 w3 := by rw [hw3]; exact (Chg.refl [] w2).alloc _
    have hb3 : w3.heap[w2.heap.size]? = some (.cells #[.int .i64 k0, .int .i64 k1, .int .i64 k2] 24 (0, 0)) := by rw [hw3]; exact heap_at _ _ _ rfl
    have Hins := Lib.hid (ins_any w3 B (.slice a l.length cap) l (k0, k1, k2) (posK l (k0, k1, k2)) w2.heap.size (H2.out.1.same hc3) hl hpl hb3 (fun e => by
      have h1 := Hlt.out _ e
      have h2 := H2.out.2.size
      omega) (Nat.le_trans HB.out (H2.out.2.trans hc3).size))
    have H3 := Lib.hid (H2.out.2.trans hc3)
    have Hw3 := Lib.hid hw3
    clear hm hik hc3 hb3 hw3
    go_wp2_with fail
    rw [← Hw3.out]
    refine Hins.out.mono ?_
    rintro e w4 ⟨v', rfl, ho, hc4, hv'⟩
    have H4 := Lib.hid (And.intro ho (And.intro hc4 hv'))
    clear ho hc4 hv'
    go_wp2_with fail
    go_ret
    exact ⟨v', rfl, by rw [Hik.out]; exact H4.out.1, H3.out.nil.trans H4.out.2.1, fun g hg => (H4.out.2.2 g hg).imp id fun h => Nat.le_trans H3.out.size h⟩
end Go.Proofs.Ytenjjiilcdgimaa
