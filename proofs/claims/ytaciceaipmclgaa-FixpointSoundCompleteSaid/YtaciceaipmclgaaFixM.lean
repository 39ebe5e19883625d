/- Rules copied: a row of rows of rules, with slices of ints of their own. -/
import Derived.Test.YtaciceaipmclgaaFixL
namespace Go.Proofs.Ytaciceaipmclgaa
open Go.RowKit
set_option linter.unusedVariables false
theorem Try.infoRule : (Try.prog.info? 31).map (fun i => (i.zero, i.size, i.bytes)) = some (some (.agg #[.int .i64 0, .slice none 0 0]), 2, 32) := by kernel_rfl
theorem Try.infoRules : (Try.prog.info? 39).map (fun i => (i.zero, i.size, i.bytes)) = some (some (.slice none 0 0), 1, 24) := by kernel_rfl
/-- a rule as it lies in memory: its mask, the slice that it reads -/
abbrev RV := Int × Value
def dRV : RV := (0, .slice none 0 0)
def flatP (us : List RV) : List Value := us.flatMap fun x => [.int .i64 x.1, x.2]
theorem flatP_len (us : List RV) : (flatP us).length = us.length * 2 := by
  induction us with
  | nil => rfl
  | cons k r ih =>
    show ([_, _] ++ flatP r).length = _
    rw [List.length_append, ih]
    simp only [List.length_cons, List.length_nil]
    omega
theorem flatP_append (us : List RV) (x : RV) : flatP (us ++ [x]) = flatP us ++ [.int .i64 x.1, x.2] := by simp [flatP]
theorem flatP_get (us : List RV) : ∀ j, j < us.length → (flatP us)[j * 2]? = some (.int .i64 (us.getD j dRV).1) ∧ (flatP us)[j * 2 + 1]? = some (us.getD j dRV).2 := by
  induction us with
  | nil => intro j h; simp at h
  | cons k r ih =>
    intro j h
    have e : flatP (k :: r) = .int .i64 k.1 :: k.2 :: flatP r := rfl
    rw [e]
    cases j with
    | zero => exact ⟨rfl, rfl⟩
    | succ j =>
      have h' := ih j (by simpa using h)
      have e1 : (j + 1) * 2 = j * 2 + 1 + 1 := by omega
      rw [e1]
      simp only [List.getElem?_cons_succ, List.getD_cons_succ]
      exact h'
theorem getD_memb' {α : Type} {l : List α} {k : Nat} (hk : k < l.length) {d : α} : l.getD k d ∈ l := by simp [hk]
theorem SlF.blk {p : Nat → Prop} {w w' : World} {v : Value} {n : Nat} {f : Nat → Value} (h : SlF p w v n f) (hb : ∀ g, p g → g < w.heap.size → w'.heap[g]? = w.heap[g]?) : SlF p w' v n f := by
  obtain ⟨a, cap, rfl, h1, h2, h3⟩ := h
  refine ⟨a, cap, rfl, h1, h2, fun h0 => ?_⟩
  obtain ⟨g, off, rfl, hp, hc'⟩ := h3 h0
  exact ⟨g, off, rfl, hp, fun j hj => (World.cell?_of_block (hb g hp (lt_of_cell (hc' j hj)))).trans (hc' j hj)⟩
theorem Ints.blk {p : Nat → Prop} {w w' : World} {v : Value} {xs : List Int} (h : Ints p w v xs) (hb : ∀ g, p g → g < w.heap.size → w'.heap[g]? = w.heap[g]?) : Ints p w' v xs := SlF.blk h hb
theorem Ints.imp {p q : Nat → Prop} {w : World} {v : Value} {xs : List Int} (h : Ints p w v xs) (hpq : ∀ g, p g → q g) : Ints q w v xs := SlF.imp h hpq
/-- n lists of rules in memory of the call's own: a row gr of slices, each in a row of its own -/
structure ClV (w : World) (gr n : Nat) (L : Nat → List Rule) (V : Nat → Value) (us : Nat → List RV) : Prop where
  row : w.rowIs gr 39 n V
  own : ∀ j, j < n → w.ownsRow (gr + 1) 31 2 (V j) (us j).length (flatP (us j))
  apart : ∀ j, j < n → ∀ k, k < n → j ≠ k → ∀ g, (V j).ownBlock = some g → (V k).ownBlock ≠ some g
  len : ∀ j, j < n → (us j).length = (L j).length
  mask : ∀ j, j < n → ∀ k, k < (L j).length → ((us j).getD k dRV).1 = ((L j).getD k (0, [])).1
  ints : ∀ j, j < n → ∀ k, k < (L j).length → Ints (fun g => gr < g ∧ g < w.heap.size ∧ ∀ i, i < n → (V i).ownBlock ≠ some g) w ((us j).getD k dRV).2 ((L j).getD k (0, [])).2
def Cl (w : World) (gr n : Nat) (L : Nat → List Rule) : Prop := ∃ V us, ClV w gr n L V us
theorem ClV.kept {w w' : World} {gr n : Nat} {L : Nat → List Rule} {V : Nat → Value} {us : Nat → List RV} {T : List Nat} (h : ClV w gr n L V us) (hc : Chg T w w') (hT : ∀ g ∈ T, g < gr) : ClV w' gr n L V us := by
  refine ⟨h.row.of_block (hc.block gr h.row.lt (fun hm => absurd (hT _ hm) (by omega))), fun j hj => ownsRow_block (h.own j hj) fun g hg hl => hc.block g hl (fun hm => ?_), h.apart, h.len, h.mask, fun j hj k hk => ?_⟩
  · have := (ownsRow_lt (h.own j hj) hg).1
    have := hT _ hm
    omega
  · exact (SlF.kept (h.ints j hj k hk) hc (fun g hg hp => by have := hT _ hg; have := hp.1; omega)).imp fun g hg => ⟨hg.1, Nat.lt_of_lt_of_le hg.2.1 hc.size, hg.2.2⟩
theorem ClV.like {w : World} {gr n : Nat} {L L' : Nat → List Rule} {V : Nat → Value} {us : Nat → List RV} (h : ClV w gr n L V us) (hL : ∀ a, a < n → L' a = L a) : ClV w gr n L' V us :=
  ⟨h.row, h.own, h.apart, fun j hj => by rw [hL j hj]; exact h.len j hj, fun j hj k hk => by rw [hL j hj] at hk ⊢; exact h.mask j hj k hk, fun j hj k hk => by rw [hL j hj] at hk ⊢; exact h.ints j hj k hk⟩
theorem Cl.start {w : World} {gr n : Nat} (h : w.rowIs gr 39 n (fun _ => .slice none 0 0)) : Cl w gr n (fun _ => []) :=
  ⟨_, fun _ => [], h, fun j hj => World.ownsRow_nil _ _ _ _, fun j _ k _ _ g hg => by simp [Value.ownBlock] at hg, fun _ _ => rfl, fun j _ k hk => by simp at hk, fun j _ k hk => by simp at hk⟩
/-- a rule appended to list j: its slice u lies in blocks made since w, its two cells in a block of their own ahead of the append -/
theorem ClV.step {w w1 w2 : World} {gr n : Nat} {L : Nat → List Rule} {V : Nat → Value} {us : Nat → List RV} {o : Obj} (h : ClV w gr n L V us) {j : Nat} (hj : j < n) (r : Rule) {u v' : Value} (hc1 : Chg [] w w1)
    (hu : Ints (fun g => w.heap.size ≤ g ∧ g < w1.heap.size) w1 u r.2)
    (hown : w2.ownsRow (gr + 1) 31 2 v' ((us j).length + 1) (flatP (us j) ++ [.int .i64 r.1, u])) (hg : (w1.alloc o).grownBy w2 (V j).ownBlock) (hat : v'.ownBlock = (V j).ownBlock ∨ v'.ownBlock = some (w1.heap.size + 1)) :
    ClV (w2.setCell ⟨gr, j, none⟩ v') gr n (fun k => if k = j then L j ++ [r] else L k) (fun k => if k = j then v' else V k) (fun k => if k = j then us j ++ [(r.1, u)] else us k) := by
  have hgrw := h.row.lt
  have hs1 := hc1.size
  have hch : Chg (V j).ownBlock.toList w1 w2 := ((Chg.refl _ w1).alloc o).grown hg (fun k hk => Or.inl (by simp [hk]))
  have hs2 := hch.size
  have hlow : ∀ g ∈ (V j).ownBlock.toList, gr < g ∧ g < w.heap.size := fun g hm => by
    have := ownsRow_lt (h.own j hj) (g := g) (by simpa using hm)
    omega
  have hgr : w2.heap[gr]? = w.heap[gr]? := (hch.block gr (by omega) (fun hm => by have := hlow _ hm; omega)).trans (hc1.block gr hgrw (by simp))
  have hset : ∀ g, gr + 1 ≤ g → (w2.setCell ⟨gr, j, none⟩ v').heap[g]? = w2.heap[g]? := fun g hg1 => heap_setCell_ne _ _ _ _ (by show g ≠ gr; omega)
  have hblk : ∀ g, gr + 1 ≤ g → g < w1.heap.size → (V j).ownBlock ≠ some g → (w2.setCell ⟨gr, j, none⟩ v').heap[g]? = w1.heap[g]? := fun g h1 h2 h3 => (hset g h1).trans (hch.block g h2 (fun hm => h3 (by simpa using hm)))
  have hold : ∀ g, gr + 1 ≤ g → g < w.heap.size → (V j).ownBlock ≠ some g → (w2.setCell ⟨gr, j, none⟩ v').heap[g]? = w.heap[g]? := fun g h1 h2 h3 => (hblk g h1 (by omega) h3).trans (hc1.block g h2 (by simp))
  have hnew : ∀ c, c < n → ∀ g, (V c).ownBlock = some g → g < w.heap.size := fun c hc g e => (ownsRow_lt (h.own c hc) e).2
  have hsz : (w2.setCell ⟨gr, j, none⟩ v').heap.size = w2.heap.size := by simp
  have hV : ∀ (g : Nat) (i : Nat), i < n → g ≠ w1.heap.size + 1 → (∀ i, i < n → (V i).ownBlock ≠ some g) → (if i = j then v' else V i).ownBlock ≠ some g := fun g i hi hne hall => by
    split
    · intro e
      rcases hat with e1 | e1
      · rw [e1] at e; exact hall j hj e
      · rw [e1] at e; cases e; exact hne rfl
    · exact hall i hi
  refine ⟨(h.row.of_block hgr).set j v', fun k hk => ?_, fun a ha b hb hab g hga hgb => ?_, fun k hk => ?_, fun k hk m hm => ?_, fun k hk m hm => ?_⟩
  · by_cases hkj : k = j
    · subst hkj
      simp only [if_pos]
      rw [List.length_append, List.length_singleton, flatP_append]
      exact ownsRow_block hown fun g hgv _ => hset g (ownsRow_lt hown hgv).1
    · simp only [if_neg hkj]
      exact ownsRow_block (h.own k hk) fun g hgv hl => hold g (ownsRow_lt (h.own k hk) hgv).1 hl (fun e => h.apart k hk j hj hkj g hgv e)
  · by_cases haj : a = j
    · rw [if_pos haj] at hga
      rw [if_neg (by omega)] at hgb
      rcases hat with e | e
      · rw [e] at hga
        exact h.apart j hj b hb (by omega) g hga hgb
      · rw [e] at hga
        cases hga
        have := hnew b hb _ hgb
        omega
    · rw [if_neg haj] at hga
      by_cases hbj : b = j
      · rw [if_pos hbj] at hgb
        rcases hat with e | e
        · rw [e] at hgb
          exact h.apart a ha j hj haj g hga hgb
        · rw [e] at hgb
          cases hgb
          have := hnew a ha _ hga
          omega
      · rw [if_neg hbj] at hgb
        exact h.apart a ha b hb hab g hga hgb
  · by_cases hkj : k = j
    · subst hkj; simp [h.len k hk]
    · simp only [if_neg hkj]; exact h.len k hk
  · by_cases hkj : k = j
    · subst hkj
      simp only [if_pos] at hm ⊢
      have hl := h.len k hk
      rw [List.length_append, List.length_singleton] at hm
      by_cases hml : m < (L k).length
      · have := h.mask k hk m hml
        simpa [List.getD_eq_getElem?_getD, List.getElem?_append_left hml, List.getElem?_append_left (show m < (us k).length by omega)] using this
      · obtain rfl : m = (L k).length := by omega
        simp [List.getD_eq_getElem?_getD, ← hl]
    · simp only [if_neg hkj] at hm ⊢
      exact h.mask k hk m hm
  · have holdI : ∀ {x : Value} {ys : List Int}, Ints (fun g => gr < g ∧ g < w.heap.size ∧ ∀ i, i < n → (V i).ownBlock ≠ some g) w x ys →
        Ints (fun g => gr < g ∧ g < (w2.setCell ⟨gr, j, none⟩ v').heap.size ∧ ∀ i, i < n → (if i = j then v' else V i).ownBlock ≠ some g) (w2.setCell ⟨gr, j, none⟩ v') x ys := fun hx =>
      (hx.blk (w' := w2.setCell ⟨gr, j, none⟩ v') fun g hg hl => hold g hg.1 hl (hg.2.2 j hj)).imp fun g hg => ⟨hg.1, by rw [hsz]; have := hg.2.1; omega, fun i hi => hV g i hi (by have := hg.2.1; omega) hg.2.2⟩
    by_cases hkj : k = j
    · subst hkj
      simp only [if_pos] at hm ⊢
      have hl := h.len k hk
      rw [List.length_append, List.length_singleton] at hm
      by_cases hml : m < (L k).length
      · have := holdI (h.ints k hk m hml)
        simpa [List.getD_eq_getElem?_getD, List.getElem?_append_left hml, List.getElem?_append_left (show m < (us k).length by omega)] using this
      · obtain rfl : m = (L k).length := by omega
        have hu' : Ints (fun g => gr < g ∧ g < (w2.setCell ⟨gr, k, none⟩ v').heap.size ∧ ∀ i, i < n → (if i = k then v' else V i).ownBlock ≠ some g) (w2.setCell ⟨gr, k, none⟩ v') u r.2 :=
          (hu.blk (w' := w2.setCell ⟨gr, k, none⟩ v') fun g hg hl => hblk g (by omega) hl (fun e => by have := hnew k hk g e; omega)).imp fun g hg => ⟨by omega, by rw [hsz]; omega, fun i hi => hV g i hi (by omega) (fun i hi e => by have := hnew i hi g e; omega)⟩
        simpa [List.getD_eq_getElem?_getD, ← hl] using hu'
    · simp only [if_neg hkj] at hm ⊢
      exact holdI (h.ints k hk m hm)
/-- as a system of rules, read -/
theorem ClV.rules {w : World} {gr : Nat} {R : Rules} {L : Nat → List Rule} {V : Nat → Value} {us : Nat → List RV} (h : ClV w gr R.length L V us) (hL : ∀ i, i < R.length → L i = R.getD i []) (hn : R.length ≤ 1000000) (hl : ∀ l ∈ R, l.length ≤ 1000000) : RulesAt (fun g => gr ≤ g ∧ g < w.heap.size) w (.slice (some ⟨gr, 0, none⟩) R.length R.length) R := by
  refine ⟨_, _, rfl, Nat.le_refl _, by unfold maxLen; omega, fun _ => ⟨gr, 0, rfl, ⟨Nat.le_refl _, h.row.lt⟩, fun i hi => ⟨V i, by rw [Nat.zero_add]; exact h.row.cell hi, ?_⟩⟩⟩
  rw [← hL i hi]
  have hlen := h.len i hi
  have hown := h.own i hi
  have hsz : (L i).length ≤ 1000000 := by rw [hL i hi]; exact hl _ (getD_memb' hi)
  obtain ⟨a, cap, hv⟩ := own_shape hown
  rcases hown.2 with ⟨hv', h0⟩ | ⟨g, cap', cur, hv', h1, h2, h3, h4, h5, h6⟩
  · rw [hv']
    exact ⟨none, 0, by rw [← hlen, h0], by omega, by unfold maxLen; omega, fun h => by omega⟩
  · refine ⟨some ⟨g, 0, none⟩, cap', by rw [hv', hlen], by omega, by unfold maxLen; omega, fun _ => ⟨g, 0, rfl, ⟨by omega, lt_of_obj h2⟩, fun k hk => ?_⟩⟩
    have hob : (V i).ownBlock = some g := by rw [hv']; rfl
    obtain ⟨f1, f2⟩ := flatP_get (us i) k (by omega)
    have c1 := hown.cells (g := g) hob (k * 2) _ f1
    have c2 := hown.cells (g := g) hob (k * 2 + 1) _ f2
    rw [Addr.add_lit] at c1 c2
    rw [h.mask i hi k hk] at c1
    exact ⟨c1, _, by have e : 0 + (k * 2 + 1) = 0 + k * 2 + 1 := by omega
                     rw [e] at c2; exact c2, (h.ints i hi k hk).imp fun g hg => ⟨by omega, hg.2.1⟩⟩
end Go.Proofs.Ytaciceaipmclgaa
