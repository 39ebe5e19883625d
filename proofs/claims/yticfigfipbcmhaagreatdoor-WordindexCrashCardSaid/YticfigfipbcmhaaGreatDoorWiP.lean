/- wordindex: clone. -/
import Derived.Test.YticfigfipbcmhaaGreatDoorWiO
namespace Go.Proofs.YticfigfipbcmhaaGreatDoor
open Go.RowKit Go.ChangeMaps Go.MapKept Go.Shelf
set_option linter.unusedVariables false
set_option linter.unusedSimpArgs false
/-- an entry with other words -/
def Ent.setW (e : Ent) (a : Option Addr) (n c : Nat) : Ent := ⟨e.nm, e.sum, a, n, c⟩
theorem encE_nth (e : Ent) : (encE e)[0]? = some (.string e.nm) ∧ (encE e)[1]? = some (.int .u32 e.sum) ∧ (encE e)[2]? = some e.wv := ⟨rfl, rfl, rfl⟩
theorem enCells_ext {es : List Ent} {m : List Value} (hl : m.length = es.length * 3) (h : ∀ j (hj : j < es.length) c, c < 3 → m[j * 3 + c]? = (encE es[j])[c]?) : m = enCells es := by
  refine List.ext_getElem? fun i => ?_
  by_cases hi : i < es.length * 3
  · have hj : i / 3 < es.length := by omega
    have h1 := h (i / 3) hj (i % 3) (Nat.mod_lt _ (by decide))
    have h2 := enCells_get es (i / 3) hj (i % 3) (Nat.mod_lt _ (by decide))
    rw [show i / 3 * 3 + i % 3 = i by omega] at h1 h2
    rw [h1, h2]
  · rw [List.getElem?_eq_none (by omega), List.getElem?_eq_none (by rw [enCells_len]; omega)]
theorem enCells_setW (es : List Ent) (k : Nat) (hk : k < es.length) (a : Option Addr) (n c : Nat) : (enCells es).set (k * 3 + 2) (.slice a n c) = enCells (es.set k (es[k].setW a n c)) := by
  refine enCells_ext (by rw [List.length_set, List.length_set, enCells_len]) fun j hj d hd => ?_
  have hj' : j < es.length := by simpa using hj
  rw [List.getElem?_set]
  by_cases hjk : j = k
  · subst hjk
    rw [List.getElem_set_self]
    by_cases hd2 : d = 2
    · subst hd2
      rw [if_pos rfl, if_pos (by rw [enCells_len]; omega)]
      rfl
    · rw [if_neg (by omega), enCells_get es j hj' d hd]
      rcases (by omega : d = 0 ∨ d = 1) with e | e <;> subst e <;> rfl
  · rw [if_neg (by omega), List.getElem_set_ne (by omega), enCells_get es j hj' d hd]
theorem EnR.kept {w w' : World} {q q' : Nat → Prop} {S : Nat → Prop} {e : Ent} {x : Ie} (h : EnR w q e x) (hc : ChgP S w w') (hS : ∀ g, q g → ¬ S g) (hq : ∀ g, q g → q' g) : EnR w' q' e x := ⟨h.1, h.2.1, (h.2.2.kept hc hS).imp hq⟩
def ClPost (I : List Ie) (w : World) (e : Ending) (w' : World) : Prop := ∃ v' es, e = .returned v' ∧ es.length = I.length ∧ OwnEn w' w.heap.size v' es ∧ (∀ i (hi : i < es.length), EnR w' (fun g => v'.ownBlock ≠ some g ∧ w.heap.size ≤ g ∧ g < w'.heap.size) es[i] (I.getD i ie0)) ∧ Chg [] w w'
/-- the state of clone's loop -/
structure ClS (q : Nat → Prop) (I : List Ie) (w wr : World) (v : Value) (k : Nat) (es : List Ent) : Prop where
  own : OwnEn wr w.heap.size v es
  len : es.length = I.length
  new : ∀ i (hi : i < es.length), i < k → EnR wr (fun g => v.ownBlock ≠ some g ∧ w.heap.size ≤ g ∧ g < wr.heap.size) es[i] (I.getD i ie0)
  old : ∀ i (hi : i < es.length), k ≤ i → EnR wr q es[i] (I.getD i ie0)
  chg : Chg [] w wr
theorem ClS.next {q : Nat → Prop} {I : List Ie} {w wr w5 : World} {g n c k : Nat} {es : List Ent} {a5 : Option Addr} {m5 c5 : Nat} (h : ClS q I w wr (.slice (some ⟨g, 0, none⟩) n c) k es) (hn : es.length = n) (hq : ∀ g, q g → g < w.heap.size) (hk : k < es.length)
    (hc5 : Chg [] wr w5) (hs : StrsP (fun g => wr.heap.size ≤ g ∧ g < w5.heap.size) w5 (.slice a5 m5 c5) (I.getD k ie0).2.2) :
    ClS q I w (w5.setCell ⟨g, k * 3 + 2, none⟩ (.slice a5 m5 c5)) (.slice (some ⟨g, 0, none⟩) n c) (k + 1) (es.set k (es[k].setW a5 m5 c5)) := by
  subst hn
  have hge := (ownsRow_ge h.own (g := g) rfl).1
  have hlt : g < wr.heap.size := (h.own.lt g rfl).2
  have ho5 := h.own.same hc5
  have hrow := row_set (u := .slice a5 m5 c5) ho5 (i := k * 3 + 2) (by omega)
  rw [enCells_setW es k hk] at hrow
  have hc6 : Chg [g] w5 (w5.setCell ⟨g, k * 3 + 2, none⟩ (.slice a5 m5 c5)) := (Chg.refl [g] w5).setCell (Or.inl (by simp)) _
  have hch : Chg [g] wr (w5.setCell ⟨g, k * 3 + 2, none⟩ (.slice a5 m5 c5)) := (hc5.mono (by simp)).trans hc6
  have hs5 := hc5.size
  have hs6 := hc6.size
  have hw := h.chg.size
  refine ⟨by unfold OwnEn; rw [List.length_set]; exact hrow, by rw [List.length_set]; exact h.len, fun i hi hik => ?_, fun i hi hik => ?_, ?_⟩
  · have hi' : i < es.length := by simpa using hi
    by_cases e : i = k
    · subst e
      rw [List.getElem_set_self]
      have ho := h.old i hi' (Nat.le_refl _)
      refine ⟨ho.1, ho.2.1, (hs.kept hc6.toP fun g' hg' hm => ?_).imp fun g' hg' => ⟨fun e => ?_, by have := hg'.1; omega, by have := hg'.2; omega⟩⟩
      · have := List.mem_singleton.1 hm
        have := hg'.1
        omega
      · have e' : g = g' := by simpa [Value.ownBlock] using e
        have := hg'.1
        omega
    · rw [List.getElem_set_ne (by omega)]
      refine (h.new i hi' (by omega)).kept hch.toP (fun g' hg' hm => ?_) fun g' hg' => ⟨hg'.1, hg'.2.1, by have := hg'.2.2; omega⟩
      exact hg'.1 (by rw [List.mem_singleton.1 hm]; rfl)
  · have hi' : i < es.length := by simpa using hi
    rw [List.getElem_set_ne (by omega)]
    refine (h.old i hi' (by omega)).kept hch.toP (fun g' hg' hm => ?_) fun g' hg' => hg'
    have := hq g' hg'
    have := List.mem_singleton.1 hm
    omega
  · exact h.chg.comp hch fun g' hg' => Or.inr (by rw [List.mem_singleton.1 hg']; exact hge)
end Go.Proofs.YticfigfipbcmhaaGreatDoor
