/- slices.SortFunc at keys: a row of keys as the sort reads it. -/
import Derived.Test.YtenjjiilcdgimaaDgI
import Derived.Shelf.SlSortCmp.InsertionK
namespace Go.Proofs.Ytenjjiilcdgimaa
open Go.RowKit Go.ChangeMaps Go.MapKept Go.Shelf Go.Lib Go.Sort
set_option linter.unusedVariables false
set_option linter.unusedSimpArgs false
def encK (k : I3) : List Value := [.int .i64 k.1, .int .i64 k.2.1, .int .i64 k.2.2]
instance : Inhabited I3 := ⟨k0⟩
theorem swoK : SWO (ltOf cmpK) where
  irrefl x := by unfold ltOf; have := (cmpK_eq x x).2 rfl; simp [this]
  trans x y z h1 h2 := by
    unfold ltOf at *
    simp only [decide_eq_true_eq, cmpK_lt] at *
    exact ltK_trans h1 h2
  ntrans x y z h1 h2 := by
    unfold ltOf at *
    simp only [decide_eq_false_iff_not, cmpK_lt] at *
    intro h3
    rcases ltK_total x y with e | e | e
    · exact h1 e
    · subst e; exact h2 h3
    · exact h2 (ltK_trans e h3)
theorem sortW_chg {α : Type} [Inhabited α] (enc : α → List Value) (k : Nat) (w : World) (blk off m : Nat) (dk : Array α) (os : Array Obj) : Chg [blk] w (sortWorldK enc k w blk off m dk os) := by
  refine ⟨rfl, rfl, rfl, ?_, fun g hg hn => ?_⟩
  · simp [sortWorldK, grow, putRowK, putRow, mapBlock, ahead]
  · show (((w.heap.modify blk (onCells (putCells id off (flatK enc k dk))))) ++ os)[g]? = w.heap[g]?
    rw [Array.getElem?_append_left (by simpa using hg)]
    simp [Array.getElem?_modify, Ne.symm (by simpa using hn : g ≠ blk)]
theorem growK (W : World) (o1 o2 o3 : Obj) : (((W.alloc o1).alloc o2).alloc o3).drew = Go.Sort.grow (W.drewN 1) #[o1, o2, o3] := by
  rw [alloc_eq_grow, alloc_eq_grow, alloc_eq_grow, grow_grow, grow_grow]
  rfl
theorem cmpLaysK {blk off size : Nat} {w : World} : CmpLays Try.prog 29 #[] encK 3 cmpK blk off size w := by
  rintro m os dk _ x y
  refine (compareKeys_exact x y _).mono ?_
  rintro e w' ⟨rfl, o, rfl⟩
  exact ⟨rfl, 1, _, growK _ _ _ _⟩
theorem enterCmpK (args : Array Value) (w : World) : (callFunc 29 args).run Try.prog w = .ok (.enter 29 args) w := by go_simp
/-- a row of keys as the sort reads it -/
theorem holds_keys {w : World} {B blk cap : Nat} {l : List I3} (h : OwnK w B (.slice (some ⟨blk, 0, none⟩) l.length cap) l) : HoldsK encK 3 w blk 0 l.toArray := by
  intro t ht
  rw [size_flatK] at ht
  have hq : t / 3 < l.length := by simp at ht; omega
  have hfr : w.frozen? ⟨blk, 0 + t, none⟩ = false := by
    rcases h.2 with ⟨e, _⟩ | ⟨g', cap', cur', hv, _, hh, _⟩
    · cases e
    · cases hv; exact frozen_of_heap hh
  refine ⟨?_, hfr⟩
  rw [get_flatK _ _ _ _ ht]
  obtain ⟨f0, f1, f2⟩ := kCells_get l (t / 3) hq
  have hk : l.toArray[t / 3]! = l[t / 3] := by
    rw [getElem!_pos _ _ (by simpa using hq)]
    simp
  rw [hk]
  obtain ⟨_, g, hg, hc⟩ := h.cells
  cases hg
  have cell : ∀ u, (kCells l)[t]? = some u → w.cell? ⟨blk, 0 + t, none⟩ = some u := fun u hu => by rw [Nat.zero_add]; exact hc _ _ hu
  unfold encK
  rcases (by omega : t % 3 = 0 ∨ t % 3 = 1 ∨ t % 3 = 2) with e | e | e
  · rw [e]; exact cell _ ((congrArg (fun n => (kCells l)[n]?) (by omega : t = t / 3 * 3)).trans f0)
  · rw [e]; exact cell _ ((congrArg (fun n => (kCells l)[n]?) (by omega : t = t / 3 * 3 + 1)).trans f1)
  · rw [e]; exact cell _ ((congrArg (fun n => (kCells l)[n]?) (by omega : t = t / 3 * 3 + 2)).trans f2)
end Go.Proofs.Ytenjjiilcdgimaa
