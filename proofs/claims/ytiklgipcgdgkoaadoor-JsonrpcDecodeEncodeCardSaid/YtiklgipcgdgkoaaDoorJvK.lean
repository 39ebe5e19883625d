/- JSON values: reversed. -/
import Derived.Test.YtiklgipcgdgkoaaDoorJvI
namespace Go.Proofs.YtiklgipcgdgkoaaDoor.Jv
open Go.RowKit Go.ChangeMaps Go.MapKept
set_option linter.unusedVariables false
set_option linter.unusedSimpArgs false
theorem row_set {w : World} {base g n cap sz i : Nat} {e : TypeId} {xs : List Value} {u : Value} (h : w.ownsRow base e sz (.slice (some ⟨g, 0, none⟩) n cap) n xs) (hi : i < n * sz) : (w.setCell ⟨g, i, none⟩ u).ownsRow base e sz (.slice (some ⟨g, 0, none⟩) n cap) n (xs.set i u) := by
  refine ⟨by rw [List.length_set]; exact h.1, ?_⟩
  rcases h.2 with ⟨h0, _⟩ | ⟨g', cap', cur, hv, h1, h2, h3, h4, h5, h6⟩
  · cases h0
  · cases hv
    refine .inr ⟨g, cap, cur.setIfInBounds i u, rfl, h1, heap_setCell_same h2 u, h3, h4, by simpa using h5, ?_⟩
    rw [Array.toList_setIfInBounds, List.take_set, h6]
/-- five cells stored -/
def st5 (w : World) (g o : Nat) (e : Ev) : World := ((((w.setCell ⟨g, o, none⟩ (.int .i64 e.k)).setCell ⟨g, o + 1, none⟩ (.int .i64 e.n)).setCell ⟨g, o + 2, none⟩ (.string e.t)).setCell ⟨g, o + 3, none⟩ (.slice e.na e.nl e.nc)).setCell ⟨g, o + 4, none⟩ (.slice e.ia e.il e.ic)
theorem st5_chg (w : World) (g o : Nat) (e : Ev) : Chg [g] w (st5 w g o e) := (((((Chg.refl [g] w).setCell (Or.inl (by simp)) _).setCell (Or.inl (by simp)) _).setCell (Or.inl (by simp)) _).setCell (Or.inl (by simp)) _).setCell (Or.inl (by simp)) _
theorem evCells_set (es : List Ev) (i : Nat) (hi : i < es.length) (e : Ev) : (((((evCells es).set (i * 5) (.int .i64 e.k)).set (i * 5 + 1) (.int .i64 e.n)).set (i * 5 + 2) (.string e.t)).set (i * 5 + 3) (.slice e.na e.nl e.nc)).set (i * 5 + 4) (.slice e.ia e.il e.ic) = evCells (es.set i e) := by
  refine evCells_ext (by simp [evCells_len]) fun j hj d hd => ?_
  have hj' : j < es.length := by simpa using hj
  simp only [List.getElem?_set, List.length_set, evCells_len]
  by_cases hji : j = i
  · subst hji
    rw [List.getElem_set_self]
    rcases (by omega : d = 0 ∨ d = 1 ∨ d = 2 ∨ d = 3 ∨ d = 4) with rfl | rfl | rfl | rfl | rfl
    · rw [if_neg (by omega), if_neg (by omega), if_neg (by omega), if_neg (by omega), if_pos (by omega), if_pos (by omega)]; rfl
    · rw [if_neg (by omega), if_neg (by omega), if_neg (by omega), if_pos (by omega), if_pos (by omega)]; rfl
    · rw [if_neg (by omega), if_neg (by omega), if_pos (by omega), if_pos (by omega)]; rfl
    · rw [if_neg (by omega), if_pos (by omega), if_pos (by omega)]; rfl
    · rw [if_pos (by omega), if_pos (by omega)]; rfl
  · rw [List.getElem_set_ne (by omega), if_neg (by omega), if_neg (by omega), if_neg (by omega), if_neg (by omega), if_neg (by omega)]
    exact evCells_get es j hj' d hd
/-- one value of a row replaced -/
theorem JRow.set {B f g n cap i : Nat} {w : World} {xs : List J} (h : JRow B f w (.slice (some ⟨g, 0, none⟩) n cap) xs) (hi : i < xs.length) {e : Ev} {x : J}
    (hx : JV (fun q => (B ≤ q ∧ q < w.heap.size) ∧ g ≠ q) f w e.val x) : JRow B f (st5 w g (i * 5) e) (.slice (some ⟨g, 0, none⟩) n cap) (xs.set i x) := by
  obtain ⟨es, h1, h2, h3⟩ := h
  have hn : n = es.length := by
    obtain ⟨a, c, e⟩ := ownsRow_shape h2
    cases e
    rfl
  subst hn
  have hc := st5_chg w g (i * 5) e
  have key : ∀ (y : Ev) (z : J), JV (fun q => (B ≤ q ∧ q < w.heap.size) ∧ g ≠ q) f w y.val z → JV (fun q => (B ≤ q ∧ q < (st5 w g (i * 5) e).heap.size) ∧ (Value.slice (some ⟨g, 0, none⟩) es.length cap).ownBlock ≠ some q) f (st5 w g (i * 5) e) y.val z := fun y z hz =>
    (hz.kept hc.toP fun q hq hm => hq.2 (List.mem_singleton.1 hm).symm).imp fun q hq => ⟨⟨hq.1.1, Nat.lt_of_lt_of_le hq.1.2 hc.size⟩, fun e => hq.2 (by simpa [Value.ownBlock] using e)⟩
  refine ⟨es.set i e, by simp [h1], ?_, fun j hj => ?_⟩
  · have ho := row_set (u := .slice e.ia e.il e.ic) (row_set (u := .slice e.na e.nl e.nc) (row_set (u := .string e.t) (row_set (u := .int .i64 e.n) (row_set (i := i * 5) (u := .int .i64 e.k) h2 (by omega)) (i := i * 5 + 1) (by omega)) (i := i * 5 + 2) (by omega)) (i := i * 5 + 3) (by omega)) (i := i * 5 + 4) (by omega)
    rw [evCells_set es i (by omega) e] at ho
    unfold OwnE
    rw [List.length_set]
    exact ho
  · have hj' : j < es.length := by simpa using hj
    by_cases hji : j = i
    · subst hji
      rw [List.getElem_set_self, List.getD_eq_getElem?_getD, List.getElem?_set_self hi]
      exact key _ _ hx
    · rw [List.getElem_set_ne (by omega), List.getD_eq_getElem?_getD, List.getElem?_set_ne (by omega), ← List.getD_eq_getElem?_getD]
      exact key _ _ ((h3 j hj').imp fun q hq => ⟨hq.1, fun e => hq.2 (by simp [Value.ownBlock, e])⟩)
theorem JRow.cells {B f g n cap i : Nat} {w : World} {xs : List J} (h : JRow B f w (.slice (some ⟨g, 0, none⟩) n cap) xs) (hi : i < xs.length) : (∀ c, c < 5 → ∃ u, w.cell? ⟨g, i * 5 + c, none⟩ = some u) ∧ (∀ k, w.frozen? ⟨g, k, none⟩ = false) := by
  obtain ⟨es, h1, h2, h3⟩ := h
  have hn : n = es.length := by
    obtain ⟨a, c, e⟩ := ownsRow_shape h2
    cases e
    rfl
  subst hn
  refine ⟨fun c hc => ?_, World.ownsRow.frozenAt h2⟩
  have hl : ((es[i]'(by omega)).cells).length = 5 := rfl
  exact ⟨((es[i]'(by omega)).cells)[c]'(by omega), h2.cell (j := i) (by omega) (List.getElem?_eq_getElem (by omega)) hc⟩
theorem OwnN.set {B g n cap i : Nat} {w : World} {xs : List ByteArray} (h : OwnN w B (.slice (some ⟨g, 0, none⟩) n cap) xs) (hi : i < xs.length) {s : ByteArray} (hs : s.size ≤ maxLen) : OwnN (w.setCell ⟨g, i, none⟩ (.string s)) B (.slice (some ⟨g, 0, none⟩) n cap) (xs.set i s) := by
  obtain ⟨h1, h2⟩ := h
  have hn : n = xs.length := by
    obtain ⟨a, c, e⟩ := ownsRow_shape h1
    cases e
    rfl
  subst hn
  have ho := row_set (u := .string s) h1 (i := i) (by omega)
  refine ⟨?_, fun x hx => ?_⟩
  · rw [List.length_set]
    unfold ssk at ho ⊢
    rw [List.map_set]
    exact ho
  · rcases List.mem_or_eq_of_mem_set hx with h | rfl
    · exact h2 x h
    · exact hs
theorem OwnN.cells {B g n cap i : Nat} {w : World} {xs : List ByteArray} (h : OwnN w B (.slice (some ⟨g, 0, none⟩) n cap) xs) (hi : i < xs.length) : (∃ u, w.cell? ⟨g, i, none⟩ = some u) ∧ (∀ k, w.frozen? ⟨g, k, none⟩ = false) := by
  have hn : n = xs.length := by
    obtain ⟨a, c, e⟩ := ownsRow_shape h.1
    cases e
    rfl
  subst hn
  refine ⟨⟨sk xs[i], ?_⟩, World.ownsRow.frozenAt h.1⟩
  have := World.ownsRow.cells h.1 (g := g) rfl i (sk xs[i]) (by unfold ssk; rw [List.getElem?_map, List.getElem?_eq_getElem hi]; rfl)
  rwa [Addr.add_lit, Nat.zero_add] at this
theorem own_ne {w : World} {base size n g : Nat} {v : Value} {xs : List Value} {c : Array Value} (h : w.ownsRow base 9 size v n xs) (hg : v.ownBlock = some g) (hb : w.heap[g]? = some (.cells c 25 (0, 0))) : False := by
  rcases h.2 with ⟨h0, _⟩ | ⟨g', cap', cur, hv, _, h2, _⟩
  · subst h0; cases hg
  · subst hv
    simp only [Value.ownBlock, Option.some.injEq] at hg
    subst hg
    rw [hb] at h2
    cases h2
end Go.Proofs.YtiklgipcgdgkoaaDoor.Jv
