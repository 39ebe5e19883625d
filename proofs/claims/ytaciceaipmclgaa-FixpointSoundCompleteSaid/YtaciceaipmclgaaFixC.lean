/- The readers of the sets: rows of rows, appended to. -/
import Derived.Test.YtaciceaipmclgaaFixB
import Derived.Deep.OwnRows
namespace Go.Proofs.Ytaciceaipmclgaa
open Go.RowKit
set_option linter.unusedVariables false
theorem Try.infoInts : (Try.prog.info? 23).map (fun i => (i.zero, i.size, i.bytes)) = some (some (.slice none 0 0), 1, 24) := by kernel_rfl
theorem ownsRow_block {w w' : World} {base : Nat} {e : TypeId} {size : Nat} {v : Value} {n : Nat} {xs : List Value} (h : w.ownsRow base e size v n xs) (hb : ∀ g, v.ownBlock = some g → g < w.heap.size → w'.heap[g]? = w.heap[g]?) : w'.ownsRow base e size v n xs := by
  refine ⟨h.1, ?_⟩
  rcases h.2 with hn | ⟨g, cap, cur, rfl, h1, h2, rest⟩
  · exact .inl hn
  · exact .inr ⟨g, cap, cur, rfl, h1, (hb g rfl (lt_of_obj h2)).trans h2, rest⟩
theorem ownsRow_lt {w : World} {base : Nat} {e : TypeId} {size : Nat} {v : Value} {n : Nat} {xs : List Value} (h : w.ownsRow base e size v n xs) {g : Nat} (hg : v.ownBlock = some g) : base ≤ g ∧ g < w.heap.size := by
  rcases h.2 with ⟨rfl, _⟩ | ⟨g', cap, cur, rfl, h1, h2, rest⟩
  · simp [Value.ownBlock] at hg
  · simp [Value.ownBlock] at hg
    subst hg
    exact ⟨h1, lt_of_obj h2⟩
/-- the readers of n sets: a row gr of n slices, each in a row of its own -/
structure RdV (w : World) (gr n : Nat) (rd : Nat → List Nat) (V : Nat → Value) : Prop where
  row : w.rowIs gr 23 n V
  own : ∀ j, j < n → w.ownsRow (gr + 1) 3 1 (V j) (rd j).length ((rd j).map nv)
  apart : ∀ j, j < n → ∀ k, k < n → j ≠ k → ∀ g, (V j).ownBlock = some g → (V k).ownBlock ≠ some g
def Rd (w : World) (gr n : Nat) (rd : Nat → List Nat) : Prop := ∃ V, RdV w gr n rd V
theorem Rd.kept {w w' : World} {gr n : Nat} {rd : Nat → List Nat} {T : List Nat} (h : Rd w gr n rd) (hc : Chg T w w') (hT : ∀ g ∈ T, g < gr) : Rd w' gr n rd := by
  obtain ⟨V, h1, h2, h3⟩ := h
  refine ⟨V, h1.of_block (hc.block gr h1.lt (fun hm => absurd (hT _ hm) (by omega))), fun j hj => ownsRow_block (h2 j hj) fun g hg hl => hc.block g hl (fun hm => ?_), h3⟩
  have := (ownsRow_lt (h2 j hj) hg).1
  have := hT _ hm
  omega
theorem Rd.start {w : World} {gr n : Nat} (h : w.rowIs gr 23 n (fun _ => .slice none 0 0)) : Rd w gr n (fun _ => []) :=
  ⟨_, h, fun j hj => World.ownsRow_nil _ _ _ _, fun j _ k _ _ g hg => by simp [Value.ownBlock] at hg⟩
theorem RdV.step {w w' : World} {gr n : Nat} {rd : Nat → List Nat} {V : Nat → Value} (h : RdV w gr n rd V) {j : Nat} (hj : j < n) (x : Nat) {v' : Value}
    (hown : w'.ownsRow (gr + 1) 3 1 v' ((rd j).length + 1) ((rd j).map nv ++ [nv x])) (hg : w.grownBy w' (V j).ownBlock) (hat : v'.ownBlock = (V j).ownBlock ∨ v'.ownBlock = some w.heap.size) :
    Rd (w'.setCell ⟨gr, j, none⟩ v') gr n (fun k => if k = j then rd j ++ [x] else rd k) := by
  have hch : Chg (V j).ownBlock.toList w w' := (Chg.refl _ w).grown hg (fun k hk => Or.inl (by simp [hk]))
  have hgr : w'.heap[gr]? = w.heap[gr]? := hch.block gr h.row.lt (fun hm => by
    have := (ownsRow_lt (h.own j hj) (by simpa using hm)).1
    omega)
  refine ⟨fun k => if k = j then v' else V k, (h.row.of_block hgr).set j v', fun k hk => ?_, fun a ha b hb hab g hga hgb => ?_⟩
  · have hset : ∀ g, gr + 1 ≤ g → (w'.setCell ⟨gr, j, none⟩ v').heap[g]? = w'.heap[g]? := fun g hg1 => heap_setCell_ne _ _ _ _ (by show g ≠ gr; omega)
    by_cases hkj : k = j
    · subst hkj
      simp only [if_pos]
      rw [List.length_append, List.length_singleton, List.map_append]
      exact ownsRow_block hown fun g hgv _ => hset g (ownsRow_lt hown hgv).1
    · simp only [if_neg hkj]
      refine ownsRow_block (h.own k hk) fun g hgv hl => ?_
      have hb := (ownsRow_lt (h.own k hk) hgv).1
      rw [hset g hb]
      exact hch.block g hl (fun hm => h.apart k hk j hj hkj g hgv (by simpa using hm))
  · have hnew : ∀ c, c < n → (V c).ownBlock ≠ some w.heap.size := fun c hc e => by
      have := (ownsRow_lt (h.own c hc) e).2
      omega
    by_cases haj : a = j
    · rw [if_pos haj] at hga
      rw [if_neg (by omega)] at hgb
      rcases hat with e | e
      · rw [e] at hga
        exact h.apart j hj b hb (by omega) g hga hgb
      · rw [e] at hga
        exact hnew b hb (by rw [hgb, hga])
    · rw [if_neg haj] at hga
      by_cases hbj : b = j
      · rw [if_pos hbj] at hgb
        rcases hat with e | e
        · rw [e] at hgb
          exact h.apart a ha j hj haj g hga hgb
        · rw [e] at hgb
          exact hnew a ha (by rw [hga, hgb])
      · rw [if_neg hbj] at hgb
        exact h.apart a ha b hb hab g hga hgb
/-- a row of ints, read -/
theorem nums_of_own {w : World} {base : Nat} {v : Value} {xs : List Nat} (h : w.ownsRow base 3 1 v xs.length (xs.map nv)) : Nums (fun g => base ≤ g ∧ g < w.heap.size) w v xs := by
  rcases h.2 with ⟨rfl, h0⟩ | ⟨g, cap, cur, rfl, h1, h2, h3, h4, h5, h6⟩
  · exact ⟨none, 0, by rw [h0], by omega, by omega, fun h => absurd h (by omega)⟩
  · refine ⟨_, cap, rfl, h3, by omega, fun _ => ⟨g, 0, rfl, ⟨h1, lt_of_obj h2⟩, fun j hj => ?_⟩⟩
    have := World.ownsRow.cells h (g := g) rfl j (nv (xs.getD j 0)) (by simp [hj])
    rw [Addr.add_lit] at this
    exact this
end Go.Proofs.Ytaciceaipmclgaa
