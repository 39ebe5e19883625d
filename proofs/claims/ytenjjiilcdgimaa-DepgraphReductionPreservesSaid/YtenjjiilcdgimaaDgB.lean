/- slices.BinarySearchFunc at keys. -/
import Derived.Test.YtenjjiilcdgimaaDgA
import Derived.StillTailTactics
namespace Go.Proofs.Ytenjjiilcdgimaa
open Go.RowKit Go.ChangeMaps Go.MapKept Go.Shelf
set_option linter.unusedVariables false
set_option linter.unusedSimpArgs false
def k0 : I3 := (0, 0, 0)
theorem I3s.same {p : Nat → Prop} {w w' : World} {v : Value} {xs : List I3} (h : I3s p w v xs) (hc : Chg [] w w') : I3s p w' v xs :=
  I3s.kept h (hc.p (S := fun _ => False)) fun _ _ h => h
theorem I3s.cells {p : Nat → Prop} {w : World} {a : Option Addr} {n cap : Nat} {xs : List I3} (h : I3s p w (.slice a n cap) xs) (i : Nat) (hi : i < xs.length) :
    ∃ g off, a = some ⟨g, off, none⟩ ∧ p g ∧ w.cell? ⟨g, off + i * 3, none⟩ = some (.int .i64 (xs.getD i k0).1) ∧ w.cell? ⟨g, off + i * 3 + 1, none⟩ = some (.int .i64 (xs.getD i k0).2.1) ∧ w.cell? ⟨g, off + i * 3 + 2, none⟩ = some (.int .i64 (xs.getD i k0).2.2) := by
  obtain ⟨g, off, rfl, hp, h1, h2, h3⟩ := SlR.at h i hi k0
  exact ⟨g, off, rfl, hp, h1, h2, h3⟩
theorem I3s.shape {p : Nat → Prop} {w : World} {v : Value} {xs : List I3} (h : I3s p w v xs) : ∃ a cap, v = .slice a xs.length cap ∧ xs.length ≤ maxLen ∧ xs.length ≤ cap := SlR.shape h
theorem getD_mem0 {l : List I3} {k : Nat} (h : k < l.length) : l.getD k k0 ∈ l := by
  rw [List.getD_eq_getElem?_getD, List.getElem?_eq_getElem h]
  simp
theorem pos_eq : ∀ (l : List I3) (k : I3) (i : Nat), i ≤ l.length → (∀ a, a < i → cmpK (l.getD a k0) k < 0) → (i < l.length → ¬ cmpK (l.getD i k0) k < 0) → posK l k = i
  | [], k, i, h, _, _ => by simp at h; subst h; rfl
  | x :: r, k, 0, _, _, h2 => by
    have := h2 (by simp)
    unfold posK
    rw [List.takeWhile_cons, if_neg]
    · rfl
    · simpa using this
  | x :: r, k, i + 1, h, h1, h2 => by
    have hx := h1 0 (by omega)
    have ih := pos_eq r k i (by simpa using h) (fun a ha => by simpa using h1 (a + 1) (by omega)) (fun hi => by simpa using h2 (by simpa using hi))
    unfold posK at ih ⊢
    rw [List.takeWhile_cons, if_pos]
    · simp [ih]
    · simpa using hx
/-- the place of a key that is there -/
theorem found_iff {l : List I3} (h : SortedK l) (k : I3) (i : Nat) (hi : i ≤ l.length) (h1 : ∀ a, a < i → cmpK (l.getD a k0) k < 0) (h2 : i < l.length → ¬ cmpK (l.getD i k0) k < 0) : k ∈ l ↔ i < l.length ∧ l.getD i k0 = k := by
  constructor
  · intro hk
    obtain ⟨j, hj, rfl⟩ := List.getElem_of_mem hk
    have hgj : l.getD j k0 = l[j] := by rw [List.getD_eq_getElem?_getD, List.getElem?_eq_getElem hj]; rfl
    have hji : ¬ j < i := fun hlt => by
      have := (cmpK_lt _ _).1 (h1 j hlt)
      rw [hgj] at this
      exact ltK_irrefl _ this
    have hil : i < l.length := by omega
    refine ⟨hil, ?_⟩
    by_cases he : i = j
    · rw [he, hgj]
    · have := List.pairwise_iff_getElem.1 h i j hil hj (by omega)
      refine absurd ((cmpK_lt _ _).2 ?_) (h2 hil)
      rw [List.getD_eq_getElem?_getD, List.getElem?_eq_getElem hil]
      exact this
  · rintro ⟨hil, hk⟩
    rw [← hk]; exact getD_mem0 hil
theorem sorted_at {l : List I3} (h : SortedK l) (a b : Nat) (hab : a < b) (hb : b < l.length) : ltK (l.getD a k0) (l.getD b k0) := by
  have := List.pairwise_iff_getElem.1 h a b (by omega) hb hab
  rw [List.getD_eq_getElem?_getD, List.getD_eq_getElem?_getD, List.getElem?_eq_getElem hb, List.getElem?_eq_getElem (show a < l.length by omega)]
  exact this
def BsPost (l : List I3) (k : I3) (w : World) (e : Ending) (w' : World) : Prop := e = .returned (.tuple #[.int .i64 (posK l k : Nat), .bool (decide (k ∈ l))]) ∧ Chg [] w w'
set_option maxRecDepth 100000 in
set_option maxHeartbeats 4000000 in
theorem bsearch_any (p : Nat → Prop) (w : World) (v : Value) (l : List I3) (k : I3) (h : I3s p w v l) (hs : SortedK l) (hl : l.length ≤ 100000) :
    Calls Try.prog 33 #[v, i3v k, .func (.func 29) #[] #[]] w (BsPost l k w) := by
  obtain ⟨a, cap, rfl, hml, hcp⟩ := h.shape
  have H := Lib.hid h
  have Hs := Lib.hid hs
  obtain ⟨kk0, kk1, kk2⟩ := k
  obtain ⟨w1, hw1⟩ : ∃ x, x = w.alloc (.cells #[.int .i64 kk0, .int .i64 kk1, .int .i64 kk2] 24) := ⟨_, rfl⟩
  have hc1 : Chg [] w w1 := by rw [hw1]; exact (Chg.refl [] w).alloc _
  have hb1 : w1.heap[w.heap.size]? = some (.cells #[.int .i64 kk0, .int .i64 kk1, .int .i64 kk2] 24 (0, 0)) := by rw [hw1]; exact heap_at _ _ _ rfl
  obtain ⟨nb, hnb⟩ : ∃ n, n = w.heap.size := ⟨_, rfl⟩
  rw [← hnb] at hb1
  have Hw1 := Lib.hid hw1
  have Hnb := Lib.hid hnb
  have Hc1 := Lib.hid hc1
  have Hb1 := Lib.hid hb1
  unfold maxLen at hml
  clear h hs hw1 hnb hc1 hb1
  unfold i3v
  simp only
  go_enter Try.func33, Try.ntmps33
  go_wp2_with fail
  rw [← Hw1.out, ← Hnb.out]
  go_loopw [9, 10] (fun iv jv wr => ∃ i j : Nat, i ≤ j ∧ j ≤ l.length ∧ iv = .int .i64 (i : Nat) ∧ jv = .int .i64 (j : Nat) ∧ Hid (∀ a, a < i → cmpK (l.getD a k0) (kk0, kk1, kk2) < 0) ∧ Hid (∀ a, j ≤ a → a < l.length → 0 ≤ cmpK (l.getD a k0) (kk0, kk1, kk2)) ∧ Chg [] w1 wr) (fun iv jv _ => (intOf jv - intOf iv).toNat)
  case atStart => exact ⟨0, l.length, by omega, by omega, rfl, rfl, Lib.hid (by simp), Lib.hid (fun a h1 h2 => by omega), Chg.refl _ _⟩
  case round =>
    obtain ⟨i, j, hij, hj, rfl, rfl, Hlo, Hhi, hc⟩ := hrel
    by_cases hlt : i < j
    · have hk1 : (i : Int) < j := by omega
      obtain ⟨m, hm⟩ : ∃ m, m = (i + j) / 2 := ⟨_, rfl⟩
      have hm1 : i ≤ m ∧ m < j := by omega
      have hml2 : m < l.length := by omega
      obtain ⟨g, off, rfl, _, c0, c1, c2⟩ := (H.out.same (Hc1.out.trans hc)).cells m hml2
      obtain ⟨⟨x0, x1, x2⟩, hx⟩ : ∃ x, l.getD m k0 = x := ⟨_, rfl⟩
      rw [hx] at c0 c1 c2
      simp only at c0 c1 c2
      have Hx := Lib.hid hx
      have hwi : IntKind.i64.wrap ((i : Int) + j) = (i : Int) + j := IntWalk.i64_in _ (by omega)
      have hmv : ((i : Int) + (j : Int)) / 2 = ((m : Nat) : Int) := by omega
      have hm2 : (m : Int) < l.length := by omega
      have lc := lt_of_cell c0
      have hcr : cmpK (l.getD m k0) (kk0, kk1, kk2) = cmpK (x0, x1, x2) (kk0, kk1, kk2) := by rw [hx]
      obtain ⟨cv, hcv⟩ : ∃ c, cmpK (x0, x1, x2) (kk0, kk1, kk2) = c := ⟨_, rfl⟩
      have Hcmp := Lib.hid (show ∀ W, Calls Try.prog 29 #[.agg #[.int .i64 x0, .int .i64 x1, .int .i64 x2], .agg #[.int .i64 kk0, .int .i64 kk1, .int .i64 kk2]] W fun e w' => e = .returned (.int .i64 cv) ∧ Chg [] W w' from fun W => by
        have := compareKeys_any (x0, x1, x2) (kk0, kk1, kk2) W
        rw [hcv] at this
        exact this)
      have Hcv := Lib.hid (hcr.trans hcv)
      have hbk := (hc.block _ (lt_of_obj Hb1.out) (by simp)).trans Hb1.out
      have b0 : wr.cell? ⟨nb, 0, none⟩ = some (.int .i64 kk0) := cell_of_heap hbk rfl
      have b1 : wr.cell? ⟨nb, 1, none⟩ = some (.int .i64 kk1) := cell_of_heap hbk rfl
      have b2 : wr.cell? ⟨nb, 2, none⟩ = some (.int .i64 kk2) := cell_of_heap hbk rfl
      have lb := lt_of_cell b0
      have Hc := Lib.hid hc
      clear hx hcr hcv hbk hm hc
      go_wp2_with fail
      refine wp_region_readsQ 6 (by kernel_rfl) (by kernel_rfl) ?_
      intro wd hwd
      simp only [List.take_succ_cons, List.take_zero, List.drop_succ_cons, List.drop_zero]
      have hcd : Chg [] wr wd := by rw [hwd]; exact (Chg.refl [] wr).drew
      have q0 := (hcd.cell lc (by simp)).trans c0
      have q1 := (hcd.cell (p := ⟨g, off + m * 3 + 1, none⟩) lc (by simp)).trans c1
      have q2 := (hcd.cell (p := ⟨g, off + m * 3 + 2, none⟩) lc (by simp)).trans c2
      have p0 := (hcd.cell lb (by simp)).trans b0
      have p1 := (hcd.cell (p := ⟨nb, 1, none⟩) lb (by simp)).trans b1
      have p2 := (hcd.cell (p := ⟨nb, 2, none⟩) lb (by simp)).trans b2
      have Hcd := Lib.hid (Hc.out.trans hcd)
      clear hwd hcd c0 c1 c2 b0 b1 b2 lc lb
      repeat go_big_quiet_step (fail)
      refine wpQuiet_nil ?_
      go_wp2_with fail
      refine (Hcmp.out _).mono ?_
      rintro e w5 ⟨rfl, hc5⟩
      have Hc5 := Lib.hid (Hcd.out.trans hc5)
      clear hc5
      by_cases hneg : cv < 0
      · go_wp2_with fail
        refine ⟨⟨m + 1, j, by omega, by omega, by go_num, rfl, Lib.hid (fun a ha => ?_), Lib.hid Hhi.out, Hc5.out⟩, by simp [intOf]; omega⟩
        by_cases ham : a = m
        · rw [ham, Hcv.out]; exact hneg
        · exact (cmpK_lt _ _).2 (ltK_trans (sorted_at Hs.out a m (by omega) hml2) ((cmpK_lt _ _).1 (by rw [Hcv.out]; exact hneg)))
      · go_wp2_with fail
        refine ⟨⟨i, m, by omega, by omega, rfl, by go_num, Lib.hid Hlo.out, Lib.hid (fun a ha hal => ?_), Hc5.out⟩, by simp [intOf]; omega⟩
        by_cases ham : a = m
        · rw [ham, Hcv.out]; omega
        · refine Int.not_lt.1 fun hlt => ?_
          have := (cmpK_lt _ _).2 (ltK_trans (sorted_at Hs.out m a (by omega) hal) ((cmpK_lt _ _).1 hlt))
          rw [Hcv.out] at this
          omega
    · obtain rfl : i = j := by omega
      have hk1 : ¬ ((i : Int) < i) := by omega
      have hpos := pos_eq l (kk0, kk1, kk2) i hj Hlo.out (fun h => Int.not_lt.2 (Hhi.out i (Nat.le_refl _) h))
      have hfnd := found_iff Hs.out (kk0, kk1, kk2) i hj Hlo.out (fun h => Int.not_lt.2 (Hhi.out i (Nat.le_refl _) h))
      by_cases hil : i < l.length
      · have hg1 : decide ((i : Int) < l.length) = true := decide_eq_true (by omega)
        have hg2 : (i : Int) < l.length := by omega
        obtain ⟨g, off, rfl, _, c0, c1, c2⟩ := (H.out.same (Hc1.out.trans hc)).cells i hil
        obtain ⟨⟨x0, x1, x2⟩, hx⟩ : ∃ x, l.getD i k0 = x := ⟨_, rfl⟩
        rw [hx] at c0 c1 c2 hfnd
        simp only at c0 c1 c2
        have lc := lt_of_cell c0
        obtain ⟨cv, hcv⟩ : ∃ c, cmpK (x0, x1, x2) (kk0, kk1, kk2) = c := ⟨_, rfl⟩
        have Hcmp := Lib.hid (show ∀ W, Calls Try.prog 29 #[.agg #[.int .i64 x0, .int .i64 x1, .int .i64 x2], .agg #[.int .i64 kk0, .int .i64 kk1, .int .i64 kk2]] W fun e w' => e = .returned (.int .i64 cv) ∧ Chg [] W w' from fun W => by
          have := compareKeys_any (x0, x1, x2) (kk0, kk1, kk2) W
          rw [hcv] at this
          exact this)
        have hres : decide ((kk0, kk1, kk2) ∈ l) = (cv == 0) := by
          rw [← hcv]
          by_cases he : (x0, x1, x2) = (kk0, kk1, kk2)
          · rw [decide_eq_true (hfnd.2 ⟨hil, he⟩), (cmpK_eq _ _).2 he]; rfl
          · rw [decide_eq_false (fun hm => he (hfnd.1 hm).2)]
            have : cmpK (x0, x1, x2) (kk0, kk1, kk2) ≠ 0 := fun h => he ((cmpK_eq _ _).1 h)
            simp [this]
        have Hres := Lib.hid (And.intro hpos hres)
        have hbk := (hc.block _ (lt_of_obj Hb1.out) (by simp)).trans Hb1.out
        have b0 : wr.cell? ⟨nb, 0, none⟩ = some (.int .i64 kk0) := cell_of_heap hbk rfl
        have b1 : wr.cell? ⟨nb, 1, none⟩ = some (.int .i64 kk1) := cell_of_heap hbk rfl
        have b2 : wr.cell? ⟨nb, 2, none⟩ = some (.int .i64 kk2) := cell_of_heap hbk rfl
        have lb := lt_of_cell b0
        have Hc := Lib.hid hc
        clear hx hcv hbk hc hpos hfnd hres
        go_wp2_with fail
        go_region_held3 (fun w' => w'.cell? ⟨g, off + i * 3, none⟩ = some (.int .i64 x0) ∧ w'.cell? ⟨g, off + i * 3 + 1, none⟩ = some (.int .i64 x1) ∧ w'.cell? ⟨g, off + i * 3 + 2, none⟩ = some (.int .i64 x2) ∧ w'.cell? ⟨nb, 0, none⟩ = some (.int .i64 kk0) ∧ w'.cell? ⟨nb, 1, none⟩ = some (.int .i64 kk1) ∧ w'.cell? ⟨nb, 2, none⟩ = some (.int .i64 kk2))
          (first | (go_keep; done) | (exact ⟨q0, q1, q2, p0, p1, p2⟩))
          (first | (go_at_call 29; refine (Hcmp.out _).mono ?_; rintro e w5 ⟨rfl, hc5'⟩; have hc5 : Chg [] wr w5 := ((Chg.refl [] wr).drew).trans hc5'; have q0 := (hc5.cell lc (by simp)).trans c0; have q1 := (hc5.cell (p := ⟨g, off + i * 3 + 1, none⟩) lc (by simp)).trans c1; have q2 := (hc5.cell (p := ⟨g, off + i * 3 + 2, none⟩) lc (by simp)).trans c2; have p0 := (hc5.cell lb (by simp)).trans b0; have p1 := (hc5.cell (p := ⟨nb, 1, none⟩) lb (by simp)).trans b1; have p2 := (hc5.cell (p := ⟨nb, 2, none⟩) lb (by simp)).trans b2; have Hc5 := Lib.hid (Hc1.out.trans (Hc.out.trans hc5)); clear hc5 hc5'))
        all_goals
         try simp only [List.getElem_toArray, List.getElem_cons_zero, List.getElem_cons_succ]
         go_wp2_with fail
         go_ret2
         exact ⟨by rw [Hres.out.1, Hres.out.2]; rfl, Hc5.out⟩
      · have hg1 : decide ((i : Int) < l.length) = false := decide_eq_false (by omega)
        have hres : decide ((kk0, kk1, kk2) ∈ l) = false := decide_eq_false (fun hm => hil (hfnd.1 hm).1)
        have Hres := Lib.hid (And.intro hpos hres)
        have Hc := Lib.hid (Hc1.out.trans hc)
        clear hc hpos hfnd hres
        go_wp2_with fail
        go_quiet (fail)
        go_wp2_with fail
        go_ret2
        exact ⟨by rw [Hres.out.1, Hres.out.2]; rfl, Hc.out.drewN _⟩
end Go.Proofs.Ytenjjiilcdgimaa
