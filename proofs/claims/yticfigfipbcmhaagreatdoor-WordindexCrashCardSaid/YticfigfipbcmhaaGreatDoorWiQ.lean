/- wordindex: Update, where the document is in the index. -/
import Derived.Test.YticfigfipbcmhaaGreatDoorWiP
namespace Go.Proofs.YticfigfipbcmhaaGreatDoor
open Go.RowKit Go.ChangeMaps Go.MapKept Go.Shelf
set_option linter.unusedVariables false
set_option linter.unusedSimpArgs false
theorem ix_of_own {w : World} {base : Nat} {v : Value} {es : List Ent} {q : Nat → Prop} {I : List Ie} (h : OwnEn w base v es) (hl : es.length = I.length) (hR : ∀ i (hi : i < es.length), EnR w q es[i] (I.getD i ie0)) : IxP (fun g => base ≤ g ∧ g < w.heap.size) q w v I := by
  obtain ⟨a, cap, rfl⟩ := ownsRow_shape h
  have hb := OwnEn.bound h
  refine ⟨a, cap, by rw [hl], by omega, hb.2.2, fun hpos => ?_⟩
  obtain ⟨g, cc, hv, hge, hgl⟩ := World.ownsRow.form h (by omega)
  simp only [Value.slice.injEq] at hv
  obtain ⟨rfl, _, rfl⟩ := hv
  refine ⟨g, 0, rfl, ⟨hge, hgl⟩, fun i hi => ?_⟩
  have hi' : i < es.length := by omega
  have hR' := hR i hi'
  rw [getD_eqI hi] at hR'
  have hcell : ∀ d u, (encE es[i])[d]? = some u → d < 3 → w.cell? ⟨g, 0 + i * 3 + d, none⟩ = some u := by
    intro d u hu hd
    rw [← enCells_get es i hi' d hd] at hu
    have := World.ownsRow.cells h (g := g) rfl _ _ hu
    rw [Addr.add_lit] at this
    rw [show 0 + i * 3 + d = 0 + (i * 3 + d) by omega]
    exact this
  refine ⟨?_, ?_, es[i].wv, hcell 2 _ rfl (by decide), hR'.2.2⟩
  · rw [← hR'.1]; exact hcell 0 _ rfl (by decide)
  · rw [← hR'.2.1]; exact hcell 1 _ rfl (by decide)
theorem enCells_set3 (es : List Ent) (k : Nat) (hk : k < es.length) (e : Ent) : (((enCells es).set (k * 3) (.string e.nm)).set (k * 3 + 1) (.int .u32 e.sum)).set (k * 3 + 2) e.wv = enCells (es.set k e) := by
  refine enCells_ext (by rw [List.length_set, List.length_set, List.length_set, List.length_set, enCells_len]) fun j hj d hd => ?_
  have hj' : j < es.length := by simpa using hj
  rw [List.getElem?_set, List.getElem?_set, List.getElem?_set]
  simp only [List.length_set, enCells_len]
  by_cases hjk : j = k
  · subst hjk
    rw [List.getElem_set_self]
    rcases (by omega : d = 0 ∨ d = 1 ∨ d = 2) with e | e | e <;> subst e
    · rw [if_neg (by omega), if_neg (by omega), if_pos (by omega), if_pos (by omega)]; rfl
    · rw [if_neg (by omega), if_pos (by omega), if_pos (by omega)]; rfl
    · rw [if_pos (by omega), if_pos (by omega)]; rfl
  · rw [if_neg (by omega), if_neg (by omega), if_neg (by omega), List.getElem_set_ne (by omega), enCells_get es j hj' d hd]
def UpPost (I J : List Ie) (w : World) (e : Ending) (w' : World) : Prop := ∃ a c, e = .returned (.tuple #[.slice a I.length c, .int .i64 0]) ∧ IxP (fun g => w.heap.size ≤ g ∧ g < w'.heap.size) (fun g => w.heap.size ≤ g ∧ g < w'.heap.size) w' (.slice a I.length c) J ∧ Chg [] w w'
end Go.Proofs.YticfigfipbcmhaaGreatDoor
