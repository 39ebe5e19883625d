/- For the law of orders: appending keys that are read, places, what both orders answer. -/
import Derived.Test.YtenjjiilcdgimaaDgU
import Derived.Test.YtenjjiilcdgimaaDgQ
namespace Go.Proofs.Ytenjjiilcdgimaa
open Go.RowKit Go.ChangeMaps Go.MapKept Go.Shelf
set_option linter.unusedVariables false
set_option linter.unusedSimpArgs false
theorem I3s.cellsAt {p : Nat → Prop} {w : World} {ad : Addr} {n cap : Nat} {l : List I3} (h : I3s p w (.slice (some ad) n cap) l) (h0 : 0 < l.length) : ∀ j u, (kCells l)[j]? = some u → w.cell? (ad.add j) = some u := by
  obtain ⟨a', cap', hv, h1, h2, h3⟩ := h
  simp only [Value.slice.injEq] at hv
  obtain ⟨rfl, _, _⟩ := hv
  obtain ⟨g, off, he, _, hc⟩ := h3 h0
  cases he
  intro j u hj
  have hjl : j < l.length * 3 := by
    have := (List.getElem?_eq_some_iff.1 hj).1
    rwa [kCells_len] at this
  have hq : j / 3 < l.length := by omega
  obtain ⟨f0, f1, f2⟩ := kCells_get l (j / 3) hq
  obtain ⟨c0, c1, c2⟩ := hc (j / 3) hq
  rw [Addr.add_lit]
  rcases (by omega : j % 3 = 0 ∨ j % 3 = 1 ∨ j % 3 = 2) with e | e | e
  · have e' : j = j / 3 * 3 := by omega
    rw [e'] at hj ⊢
    rw [f0] at hj; cases hj; exact c0
  · have e' : j = j / 3 * 3 + 1 := by omega
    rw [e'] at hj ⊢
    rw [f1] at hj; cases hj; exact c1
  · have e' : j = j / 3 * 3 + 2 := by omega
    rw [e'] at hj ⊢
    rw [f2] at hj; cases hj; exact c2
theorem run_append_i3s (w : World) (ty : TypeId) (B : Nat) (p : Nat → Prop) (v sv : Value) (l m : List I3) (hv : OwnK w B v l) (hs : I3s p w sv m) (hlen : l.length + m.length ≤ 100000) (hB : B ≤ w.heap.size) :
    ∃ v' w', (Builtin.append_ #[26, 26] ty #[v, sv]).run Try.prog w = .ok v' w' ∧ OwnK w' B v' (l ++ m) ∧ Chg v.ownBlock.toList w w' := by
  obtain ⟨i0, hi, hz0, hz1, hz2⟩ := info_parts Try.infoK
  obtain ⟨a, cap, rfl, _, _⟩ := hs.shape
  by_cases h0 : m = []
  · subst h0
    refine ⟨v, w, ?_, by simpa using hv, Chg.refl _ _⟩
    rcases hv.2 with ⟨rfl, h1⟩ | ⟨g, cap', cur, rfl, _, _, hnc, _⟩
    · cases a <;> simp [Builtin.append_, run_underlying Try.underlying26, sizeOf, typeInfo, hi, Builtin.lenOf, Builtin.firstCells, h1, loadCells, loadCellsFrom, Result.andThen]
    · cases a <;> simp [Builtin.append_, run_underlying Try.underlying26, sizeOf, typeInfo, hi, Builtin.lenOf, Builtin.firstCells, hnc, storeCells, loadCells, loadCellsFrom, Result.andThen]
  · have hpos : 0 < m.length := List.length_pos_iff.2 h0
    obtain ⟨ad, rfl⟩ : ∃ ad, a = some ad := by
      obtain ⟨a', cap', hv', _, _, h3⟩ := hs
      simp only [Value.slice.injEq] at hv'
      obtain ⟨rfl, _, _⟩ := hv'
      obtain ⟨g, off, rfl, _⟩ := h3 hpos
      exact ⟨_, rfl⟩
    obtain ⟨v', w', hr, h2, h3, _, h5⟩ := run_append_own_at (P := Try.prog) w B 26 ty 24 i0 (.agg #[.int .i64 0, .int .i64 0, .int .i64 0]) 3 24 Try.underlying26 hi hz0 hz1 hz2 rfl (by decide) v l.length (kCells l) hv ad m.length cap (kCells m) (kCells_len m) (I3s.cellsAt hs hpos) (kCells_oneCell m) (by unfold maxLen; omega) (by omega) hB
    refine ⟨v', w', hr, ?_, (Chg.refl _ w).grown h3 (by intro k hk; left; simp [hk])⟩
    unfold OwnK
    rw [kCells_append, List.length_append]
    exact h2
theorem fidx_idx {O : List I3} {k : I3} (h : k ∈ O) : fidx (isKey k) O = (idx O k : Int) := by
  have hf : isKey k = fun x => decide (x = k) := by
    funext x
    unfold isKey
    exact decide_eq_decide.2 eq_comm
  unfold fidx
  rw [hf]
  have : O.findIdx? (fun x => decide (x = k)) = some (idx O k) := by
    rw [List.findIdx?_eq_some_iff_findIdx_eq]
    exact ⟨idx_lt h, rfl⟩
  rw [this]
theorem flat_take_le {α : Type} (Ls : List (List α)) (j : Nat) (h : j < Ls.length) : (Ls.take j).flatten.length + Ls[j].length ≤ Ls.flatten.length := by
  have h1 : Ls.flatten = (Ls.take (j + 1)).flatten ++ (Ls.drop (j + 1)).flatten := by rw [← List.flatten_append, List.take_append_drop]
  rw [h1, List.take_succ_eq_append_getElem h, flat_snoc]
  simp only [List.length_append]
  omega
theorem cyc_from {E : List Ed} {x : I3} (h : Reach E x x) : ∃ e ∈ E, Reach E e.1 e.1 := by
  have h' := h
  cases h with
  | one h => exact ⟨_, h, h'⟩
  | step h _ => exact ⟨_, h, h'⟩
def TopPost2 (w : World) (E : List Ed) (e : Ending) (w' : World) : Prop :=
  ∃ (a : Option Addr) (c : Nat) (O : List I3) (ec : Int), e = .returned (.tuple #[.slice a O.length c, .int .i64 ec]) ∧ Chg [] w w' ∧ I3s (fun g => w.heap.size ≤ g ∧ g < w'.heap.size) w' (.slice a O.length c) O ∧ ((ec = 8 ∧ ∃ x, Reach E x x) ∨ (ec = 0 ∧ TopI E O ∧ O.length = (ks E).length))
theorem TopPost.two {w w' : World} {E : List Ed} {e : Ending} (h : TopPost w E e w') : TopPost2 w E e w' := by
  obtain ⟨h1 | h1, hc⟩ := h
  · exact ⟨none, 0, [], 8, h1.1, hc, SlR.nil _ _ _ _, Or.inl ⟨rfl, h1.2⟩⟩
  · obtain ⟨a, c, O, he, hi, ht, hl⟩ := h1
    exact ⟨a, c, O, 0, he, hc, hi, Or.inr ⟨rfl, ht, hl⟩⟩
def LevPost2 (w : World) (E : List Ed) (e : Ending) (w' : World) : Prop :=
  ∃ (a : Option Addr) (c : Nat) (Ls : List (List I3)) (ec : Int), e = .returned (.tuple #[.slice a Ls.length c, .int .i64 ec]) ∧ Chg [] w w' ∧ I3ss (fun g => w.heap.size ≤ g ∧ g < w'.heap.size) w' (.slice a Ls.length c) Ls ∧ ((ec = 8 ∧ ∃ x, Reach E x x) ∨ (ec = 0 ∧ TopI E Ls.flatten ∧ Ls.flatten.length = (ks E).length ∧ Ls.length ≤ (ks E).length))
theorem LevPost.two {w w' : World} {E : List Ed} {e : Ending} (h : LevPost w E e w') : LevPost2 w E e w' := by
  obtain ⟨h1 | h1, hc⟩ := h
  · exact ⟨none, 0, [], 8, h1.1, hc, SlR.nil _ _ _ _, Or.inl ⟨rfl, h1.2⟩⟩
  · obtain ⟨a, c, O, he, hi, ht⟩ := h1
    exact ⟨a, c, O, 0, he, hc, hi, Or.inr ⟨rfl, ht⟩⟩
end Go.Proofs.Ytenjjiilcdgimaa
