/- slices.Clone at strings and at entries. -/
import Derived.Test.YticfigfipbcmhaaGreatDoorWiN
namespace Go.Proofs.YticfigfipbcmhaaGreatDoor
open Go.RowKit Go.ChangeMaps Go.MapKept Go.Shelf
set_option linter.unusedVariables false
set_option linter.unusedSimpArgs false
theorem row_set {w : World} {base g n cap sz i : Nat} {e : TypeId} {xs : List Value} {u : Value} (h : w.ownsRow base e sz (.slice (some ⟨g, 0, none⟩) n cap) n xs) (hi : i < n * sz) : (w.setCell ⟨g, i, none⟩ u).ownsRow base e sz (.slice (some ⟨g, 0, none⟩) n cap) n (xs.set i u) := by
  refine ⟨by rw [List.length_set]; exact h.1, ?_⟩
  rcases h.2 with ⟨h0, _⟩ | ⟨g', cap', cur, hv, h1, h2, h3, h4, h5, h6⟩
  · cases h0
  · cases hv
    refine .inr ⟨g, cap, cur.setIfInBounds i u, rfl, h1, heap_setCell_same h2 u, h3, h4, by simpa using h5, ?_⟩
    rw [Array.toList_setIfInBounds, List.take_set, h6]
/-- what an entry's cells stand for -/
def EnR (w : World) (q : Nat → Prop) (e : Ent) (x : Ie) : Prop := e.nm = x.1 ∧ e.sum = x.2.1 ∧ StrsP q w e.wv x.2.2
theorem ents_of {p q : Nat → Prop} {w : World} {a : Option Addr} {n cap : Nat} {I : List Ie} (h : IxP p q w (.slice a n cap) I) (hpos : 0 < I.length) :
    ∃ g off, a = some ⟨g, off, none⟩ ∧ p g ∧ ∃ es : List Ent, es.length = I.length ∧ (∀ i (hi : i < es.length), w.cell? ⟨g, off + i * 3, none⟩ = some (.string es[i].nm) ∧ w.cell? ⟨g, off + i * 3 + 1, none⟩ = some (.int .u32 es[i].sum) ∧ w.cell? ⟨g, off + i * 3 + 2, none⟩ = some es[i].wv) ∧ ∀ i (hi : i < es.length), EnR w q es[i] (I.getD i ie0) := by
  obtain ⟨g, off, rfl, hp, _⟩ := h.cells 0 hpos
  have hc : ∀ i, i < I.length → ∃ e : Ent, (w.cell? ⟨g, off + i * 3, none⟩ = some (.string e.nm) ∧ w.cell? ⟨g, off + i * 3 + 1, none⟩ = some (.int .u32 e.sum) ∧ w.cell? ⟨g, off + i * 3 + 2, none⟩ = some e.wv) ∧ EnR w q e (I.getD i ie0) := by
    intro i hi
    obtain ⟨g', off', he, _, c0, c1, ua, uc, c2, hs⟩ := h.cells i hi
    cases he
    exact ⟨⟨_, _, ua, _, uc⟩, ⟨c0, c1, c2⟩, rfl, rfl, hs⟩
  refine ⟨g, off, rfl, hp, (List.range I.length).map (fun i => if h : i < I.length then Classical.choose (hc i h) else ent0), by simp, fun i hi => ?_, fun i hi => ?_⟩
  · have hi' : i < I.length := by simpa using hi
    rw [List.getElem_map, List.getElem_range, dif_pos hi']
    exact (Classical.choose_spec (hc i hi')).1
  · have hi' : i < I.length := by simpa using hi
    rw [List.getElem_map, List.getElem_range, dif_pos hi']
    exact (Classical.choose_spec (hc i hi')).2
theorem sk_one (l : List ByteArray) : ∀ u ∈ l.map sk, u.oneCell' = true := by
  intro u hu
  obtain ⟨x, _, rfl⟩ := List.mem_map.1 hu
  rfl
def CePost (q : Nat → Prop) (I : List Ie) (w : World) (e : Ending) (w' : World) : Prop := ∃ v' es, e = .returned v' ∧ es.length = I.length ∧ OwnEn w' w.heap.size v' es ∧ (∀ i (hi : i < es.length), EnR w q es[i] (I.getD i ie0)) ∧ Chg [] w w'
end Go.Proofs.YticfigfipbcmhaaGreatDoor
