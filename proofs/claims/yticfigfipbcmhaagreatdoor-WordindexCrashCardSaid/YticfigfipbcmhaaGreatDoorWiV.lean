/- The index of changed documents (plain). -/
import Derived.Test.YticfigfipbcmhaaGreatDoorWiU
namespace Go.Proofs.YticfigfipbcmhaaGreatDoor
open Go.RowKit Go.ChangeMaps Go.MapKept Go.Shelf
set_option linter.unusedVariables false
theorem ltN_irrefl (a : ByteArray) : ¬ ltN a a := by
  unfold ltN
  have := (cb_eq (bl a) (bl a)).2 rfl
  omega
theorem ltN_trans {a b c : ByteArray} (h : ltN a b) (k : ltN b c) : ltN a c := cb_trans _ _ _ h k
/-- an index of documents is one list -/
theorem IsIdx.unique {D : List Dc} {I J : List Ie} (h : IsIdx D I) (k : IsIdx D J) : I = J :=
  (h.perm.trans k.perm.symm).eq_of_pairwise (le := fun a b => ltN a.1 b.1) (fun a b _ _ h1 h2 => absurd (ltN_trans h1 h2) (ltN_irrefl _)) h.lt k.lt
theorem IsIdx.mem {D : List Dc} {I : List Ie} (h : IsIdx D I) (x : Ie) : x ∈ I ↔ ∃ d ∈ D, entO d = x := by
  rw [h.perm.mem_iff, List.mem_map]
theorem IsIdx.len {D : List Dc} {I : List Ie} (h : IsIdx D I) : I.length = D.length := by
  rw [h.perm.length_eq, List.length_map]
theorem IsIdx.ok {D : List Dc} {I : List Ie} (h : IsIdx D I) (hD : DcOk D) : IxOk I := by
  refine ⟨by rw [h.len]; exact hD.len, h.lt, fun x hx => ?_⟩
  obtain ⟨d, hd, rfl⟩ := (h.mem x).1 hx
  obtain ⟨h1, h2, h3⟩ := hD.ok d hd
  exact ⟨h1, h2, words_ok _ h3⟩
/-- where a document's entry lies -/
theorem IsIdx.at {D : List Dc} {I : List Ie} (h : IsIdx D I) {d : Dc} (hd : d ∈ D) : ∃ t, t < I.length ∧ I.getD t ie0 = entO d := by
  obtain ⟨t, ht, he⟩ := List.getElem_of_mem ((h.mem _).2 ⟨d, hd, rfl⟩)
  exact ⟨t, ht, by rw [getD_eqI ht]; exact he⟩
theorem set_perm {α : Type} (l : List α) (i : Nat) (hi : i < l.length) (y : α) : (l.set i y).Perm (y :: (l.take i ++ l.drop (i + 1))) := by
  rw [List.set_eq_take_append_cons_drop, if_pos hi]
  exact List.perm_middle
theorem perm_set {α : Type} {l m : List α} (h : l.Perm m) {i j : Nat} (hi : i < l.length) (hj : j < m.length) (he : l[i] = m[j]) (y : α) : (l.set i y).Perm (m.set j y) := by
  have h1 : l.Perm (l[i] :: (l.take i ++ l.drop (i + 1))) := by
    have := set_perm l i hi l[i]
    rwa [List.set_getElem_self] at this
  have h2 : m.Perm (m[j] :: (m.take j ++ m.drop (j + 1))) := by
    have := set_perm m j hj m[j]
    rwa [List.set_getElem_self] at this
  have h3 : (l.take i ++ l.drop (i + 1)).Perm (m.take j ++ m.drop (j + 1)) := by
    have := (h1.symm.trans h).trans h2
    rw [he] at this
    exact this.cons_inv
  exact ((set_perm l i hi y).trans (h3.cons y)).trans (set_perm m j hj y).symm
/-- one document changed -/
theorem IsIdx.set {D : List Dc} {I : List Ie} (h : IsIdx D I) {j t : Nat} (hj : j < D.length) (ht : t < I.length) (he : I.getD t ie0 = entO D[j]) (d : Dc) (hn : d.1 = D[j].1) : IsIdx (D.set j d) (I.set t (entO d)) := by
  rw [getD_eqI ht] at he
  refine ⟨?_, ?_⟩
  · rw [List.map_set]
    exact perm_set h.perm ht (by simpa using hj) (by rw [List.getElem_map]; exact he) _
  · have e : ∀ i (hi : i < (I.set t (entO d)).length), ((I.set t (entO d))[i]).1 = (I[i]'(by simpa using hi)).1 := by
      intro i hi
      by_cases hit : i = t
      · subst hit
        rw [List.getElem_set_self, he]
        exact hn
      · rw [List.getElem_set_ne (by omega)]
    rw [List.pairwise_iff_getElem]
    intro a b ha hb hab
    rw [e a ha, e b hb]
    exact (List.pairwise_iff_getElem.1 h.lt) a b (by simpa using ha) (by simpa using hb) hab
theorem DcOk.set {D : List Dc} (h : DcOk D) {j : Nat} (hj : j < D.length) (d : Dc) (hn : d.1 = D[j].1) (hs : d.2.2.size ≤ 2000) : DcOk (D.set j d) := by
  have hm : (D.set j d).map (·.1) = D.map (·.1) := by
    rw [List.map_set, hn]
    refine List.ext_getElem (by simp) fun i h1 h2 => ?_
    by_cases hij : i = j
    · subst hij; rw [List.getElem_set_self, List.getElem_map]
    · rw [List.getElem_set_ne (by omega)]
  refine ⟨by rw [List.length_set]; exact h.len, fun x hx => ?_, by rw [hm]; exact h.nd⟩
  rcases List.mem_or_eq_of_mem_set hx with hx | hx
  · exact h.ok x hx
  · rw [hx]
    have := h.ok _ (List.getElem_mem hj)
    exact ⟨by rw [hn]; exact this.1, by rw [hn]; exact this.2.1, hs⟩
/-- the law: found by a word, if it is one of the document's -/
theorem find_iff {D : List Dc} {I : List Ie} (h : IsIdx D I) (hn : (D.map (·.1)).Nodup) {d : Dc} (hd : d ∈ D) (word : ByteArray) : memb d.1 (findN I word) = memb word (words d.2.2) := by
  rw [Bool.eq_iff_iff, memb_iff]
  unfold findN
  rw [List.mem_map]
  constructor
  · rintro ⟨x, hx, he⟩
    obtain ⟨hx1, hx2⟩ := List.mem_filter.1 hx
    obtain ⟨d', hd', rfl⟩ := (h.mem x).1 hx1
    have : d' = d := by
      have h1 := dOf_eq hn hd'
      have h2 := dOf_eq hn hd
      rw [← h1, ← h2]
      exact congrArg (dOf D) he
    rw [this] at hx2
    exact hx2
  · intro hw
    exact ⟨entO d, List.mem_filter.2 ⟨(h.mem _).2 ⟨d, hd, rfl⟩, hw⟩, rfl⟩
theorem dcCells_set3 (es : List Dc) (k : Nat) (hk : k < es.length) (e : Dc) : (((dcCells es).set (k * 3) (.string e.1)).set (k * 3 + 1) (.int .i64 e.2.1)).set (k * 3 + 2) (.string e.2.2) = dcCells (es.set k e) := by
  refine List.ext_getElem? fun i => ?_
  by_cases hi : i < es.length * 3
  · have hj : i / 3 < (es.set k e).length := by rw [List.length_set]; omega
    have hj' : i / 3 < es.length := by omega
    have h2 := dcCells_get (es.set k e) (i / 3) hj (i % 3) (Nat.mod_lt _ (by decide))
    have h1 := dcCells_get es (i / 3) hj' (i % 3) (Nat.mod_lt _ (by decide))
    rw [show i / 3 * 3 + i % 3 = i by omega] at h1 h2
    rw [h2, List.getElem?_set, List.getElem?_set, List.getElem?_set]
    simp only [List.length_set, dcCells_len]
    by_cases hjk : i / 3 = k
    · have hs : (es.set k e)[i / 3] = e := by
        have : (es.set k e)[k]'(by rw [List.length_set]; exact hk) = e := List.getElem_set_self _
        simp only [hjk]
        exact this
      rw [hs]
      rcases (by omega : i % 3 = 0 ∨ i % 3 = 1 ∨ i % 3 = 2) with r | r | r
      · rw [if_neg (by omega), if_neg (by omega), if_pos (by omega), if_pos (by omega), r]; rfl
      · rw [if_neg (by omega), if_pos (by omega), if_pos (by omega), r]; rfl
      · rw [if_pos (by omega), if_pos (by omega), r]; rfl
    · rw [if_neg (by omega), if_neg (by omega), if_neg (by omega), List.getElem_set_ne (by omega), h1]
  · rw [List.getElem?_eq_none (by simp [dcCells_len]; omega), List.getElem?_eq_none (by rw [dcCells_len, List.length_set]; omega)]
theorem OwnD.set3 {w : World} {base g n cap : Nat} {l : List Dc} (h : OwnD w base (.slice (some ⟨g, 0, none⟩) n cap) l) (hn : l.length = n) (k : Nat) (hk : k < l.length) (e : Dc) :
    OwnD (((w.setCell ⟨g, k * 3, none⟩ (.string e.1)).setCell ⟨g, k * 3 + 1, none⟩ (.int .i64 e.2.1)).setCell ⟨g, k * 3 + 2, none⟩ (.string e.2.2)) base (.slice (some ⟨g, 0, none⟩) n cap) (l.set k e) := by
  subst hn
  have r1 := row_set (u := .string e.1) h (i := k * 3) (by omega)
  have r2 := row_set (u := .int .i64 e.2.1) r1 (i := k * 3 + 1) (by omega)
  have r3 := row_set (u := .string e.2.2) r2 (i := k * 3 + 2) (by omega)
  rw [dcCells_set3 l k hk e] at r3
  unfold OwnD
  rw [List.length_set]
  exact r3
end Go.Proofs.YticfigfipbcmhaaGreatDoor
