/- slices.Clone at strings and at entries. -/
import Derived.Test.YtnkacmcggcdlpaaWiN
namespace Go.Proofs.Ytnkacmcggcdlpaa
open Go.RowKit Go.ChangeMaps Go.MapKept Go.Shelf
set_option linter.unusedVariables false
set_option linter.unusedSimpArgs false
theorem row_set {w : World} {base g n cap sz i : Nat} {e : TypeId} {xs : List Value} {u : Value} (h : w.ownsRow base e sz (.slice (some ⟨g, 0, none⟩) n cap) n xs) (hi : i < n * sz) : (w.setCell ⟨g, i, none⟩ u).ownsRow base e sz (.slice (some ⟨g, 0, none⟩) n cap) n (xs.set i u) := by
  refine ⟨by rw [List.length_set]; exact h.1, ?_⟩
  rcases h.2 with ⟨h0, _⟩ | ⟨g', cap', cur, hv, h1, h2, h3, h4, h5, h6⟩
  · cases h0
  · cases hv
    refine .inr ⟨g, cap, cur.setIfInBounds i u, rfl, h1, heap_setCell_same h2 u, h3, h4, by simpa using h5, ?_⟩
    rw [Array.toList_setIfInBounds, List.take_set, h6]
/-- what an entry's cells stand for -/
def EnR (w : World) (q : Nat → Prop) (e : Ent) (x : Ie) : Prop := e.nm = x.1 ∧ e.sum = x.2.1 ∧ StrsP q w e.wv x.2.2
theorem ents_of {p q : Nat → Prop} {w : World} {a : Option Addr} {n cap : Nat} {I : List Ie} (h : IxP p q w (.slice a n cap) I) (hpos : 0 < I.length) :
    ∃ g off, a = some ⟨g, off, none⟩ ∧ p g ∧ ∃ es : List Ent, es.length = I.length ∧ (∀ i (hi : i < es.length), w.cell? ⟨g, off + i * 3, none⟩ = some (.string es[i].nm) ∧ w.cell? ⟨g, off + i * 3 + 1, none⟩ = some (.int .u32 es[i].sum) ∧ w.cell? ⟨g, off + i * 3 + 2, none⟩ = some es[i].wv) ∧ ∀ i (hi : i < es.length), EnR w q es[i] (I.getD i ie0) := by
  obtain ⟨g, off, rfl, hp, _⟩ := h.cells 0 hpos
  have hc : ∀ i, i < I.length → ∃ e : Ent, (w.cell? ⟨g, off + i * 3, none⟩ = some (.string e.nm) ∧ w.cell? ⟨g, off + i * 3 + 1, none⟩ = some (.int .u32 e.sum) ∧ w.cell? ⟨g, off + i * 3 + 2, none⟩ = some e.wv) ∧ EnR w q e (I.getD i ie0) := by
    intro i hi
    obtain ⟨g', off', he, _, c0, c1, ua, uc, c2, hs⟩ := h.cells i hi
    cases he
    exact ⟨⟨_, _, ua, _, uc⟩, ⟨c0, c1, c2⟩, rfl, rfl, hs⟩
  refine ⟨g, off, rfl, hp, (List.range I.length).map (fun i => if h : i < I.length then Classical.choose (hc i h) else ent0), by simp, fun i hi => ?_, fun i hi => ?_⟩
  · have hi' : i < I.length := by simpa using hi
    rw [List.getElem_map, List.getElem_range, dif_pos hi']
    exact (Classical.choose_spec (hc i hi')).1
  · have hi' : i < I.length := by simpa using hi
    rw [List.getElem_map, List.getElem_range, dif_pos hi']
    exact (Classical.choose_spec (hc i hi')).2
theorem sk_one (l : List ByteArray) : ∀ u ∈ l.map sk, u.oneCell' = true := by
  intro u hu
  obtain ⟨x, _, rfl⟩ := List.mem_map.1 hu
  rfl
set_option maxHeartbeats 1000000 in
theorem strClone_any (p : Nat → Prop) (w : World) (v : Value) (l : List ByteArray) (h : StrsP p w v l) (hl : l.length ≤ 1000) :
    Calls Try.prog 40 #[v] w fun e w' => ∃ a c, e = .returned (.slice a l.length c) ∧ StrsP (fun g => w.heap.size ≤ g ∧ g < w'.heap.size) w' (.slice a l.length c) l ∧ Chg [] w w' := by
  obtain ⟨a, cap, rfl, h1, h2, h3⟩ := h
  cases a with
  | none =>
    have h0 : l = [] := by
      rcases l with _ | ⟨k, r⟩
      · rfl
      · obtain ⟨g, off, e, _⟩ := h3 (by simp)
        cases e
    subst h0
    have hnil := fun w : World => Lib.run_eql_slice_nil (P := Try.prog) w 23 9 none 0 cap 0 0 Try.underlying23
    clear h1 h2 h3
    go_enter Try.func40, Try.ntmps40
    go_wp2_with fail
    go_ret
    exact ⟨none, 0, rfl, SlR.nil _ _ _ _, Chg.refl _ _⟩
  | some ad =>
    obtain ⟨i0, hi, hz0, hz1, hz2⟩ := info_parts Try.infoStr
    have hnil := fun w : World => Lib.run_eql_slice_nil (P := Try.prog) w 23 9 (some ad) l.length cap 0 0 Try.underlying23
    have hcs : ∀ j u, (l.map sk)[j]? = some u → (w.alloc (.cells #[] 9)).cell? (ad.add j) = some u := by
      intro j u hu
      have hjl : j < l.length := by
        rcases Nat.lt_or_ge j l.length with h | h
        · exact h
        · rw [List.getElem?_eq_none (by simpa using h)] at hu; cases hu
      obtain ⟨g, off, e, _, hc⟩ := h3 (by omega)
      cases e
      have h1 := hc j hjl
      unfold rdStr at h1
      rw [List.getElem?_map, List.getElem?_eq_getElem hjl] at hu
      cases hu
      rw [Nat.mul_one] at h1
      rw [Addr.add_lit, World.cell?_alloc_past _ _ _ (lt_of_cell h1), h1]
      rfl
    have Hcs := Lib.hid hcs
    clear hcs h3
    go_enter Try.func40, Try.ntmps40
    go_wp2_with (at_builtin; refine wpList_append_own _ rfl _ _ 23 rfl w.heap.size 9 i0 (.string ⟨#[]⟩) 1 16 Try.underlying23 hi hz0 hz1 hz2 rfl (by decide) (.slice (some ⟨w.heap.size, 0, none⟩) 0 0) 0 [] rfl (World.ownsRow_made w #[] 0 (Nat.le_refl _) (Nat.zero_le _) rfl) ad l.length cap (l.map sk) rfl (by simp) Hcs.out (sk_one l) (by unfold maxLen; omega) (by omega) (by simp) ?_; intro v' w1 hown hgr _)
    go_ret
    simp only [Nat.zero_add, List.nil_append] at hown
    have hO : OwnS w1 w.heap.size v' l := hown
    obtain ⟨a', c', rfl⟩ := ownsRow_shape hown
    exact ⟨a', c', rfl, hO.strs.imp fun g hg => ⟨hg.1, hg.2.1⟩, ((Chg.refl [] w).alloc _).grown hgr (by simp [Value.ownBlock])⟩
def CePost (q : Nat → Prop) (I : List Ie) (w : World) (e : Ending) (w' : World) : Prop := ∃ v' es, e = .returned v' ∧ es.length = I.length ∧ OwnEn w' w.heap.size v' es ∧ (∀ i (hi : i < es.length), EnR w q es[i] (I.getD i ie0)) ∧ Chg [] w w'
set_option maxHeartbeats 1000000 in
theorem entClone_any (p q : Nat → Prop) (w : World) (v : Value) (I : List Ie) (h : IxP p q w v I) (hl : I.length ≤ 1000) :
    Calls Try.prog 39 #[v] w (CePost q I w) := by
  obtain ⟨a, cap, rfl, hml, hcp⟩ := h.shape
  by_cases h0 : I = []
  · subst h0
    cases a with
    | none =>
      have hnil := fun w : World => Lib.run_eql_slice_nil (P := Try.prog) w 29 43 none 0 cap 0 0 Try.underlying29
      clear h hl hml hcp
      go_enter Try.func39, Try.ntmps39
      go_wp2_with fail
      go_ret
      exact ⟨_, [], rfl, rfl, OwnEn.nil _ _, fun i hi => absurd hi (by simp), Chg.refl _ _⟩
    | some ad =>
      obtain ⟨i0, hi, hz0, hz1, hz2⟩ := info_parts infoEn
      have hnil := fun w : World => Lib.run_eql_slice_nil (P := Try.prog) w 29 43 (some ad) 0 cap 0 0 Try.underlying29
      clear h hl hml
      go_enter Try.func39, Try.ntmps39
      go_wp2_with (at_builtin; refine wpList_append_own _ rfl _ _ 29 rfl w.heap.size 43 i0 (.agg #[.string ⟨#[]⟩, .int .u32 0, .slice none 0 0]) 3 48 Try.underlying29 hi hz0 hz1 hz2 rfl (by decide) (.slice (some ⟨w.heap.size, 0, none⟩) 0 0) 0 [] rfl (World.ownsRow_made w #[] 0 (Nat.le_refl _) (Nat.zero_le _) rfl) ad 0 cap [] rfl rfl (fun j u hu => by simp at hu) (by simp) (by unfold maxLen; omega) (by omega) (by simp) ?_; intro v' w1 hown hgr _)
      go_ret
      simp only [Nat.zero_add, List.nil_append] at hown
      exact ⟨v', [], rfl, rfl, hown, fun i hi => absurd hi (by simp), ((Chg.refl [] w).alloc _).grown hgr (by simp [Value.ownBlock])⟩
  · obtain ⟨g, off, rfl, hp, es, hel, hcs, hR⟩ := ents_of h (List.length_pos_iff.2 h0)
    rw [← hel] at hl hml hcp
    obtain ⟨i0, hi, hz0, hz1, hz2⟩ := info_parts infoEn
    have hnil := fun w : World => Lib.run_eql_slice_nil (P := Try.prog) w 29 43 (some ⟨g, off, none⟩) es.length cap 0 0 Try.underlying29
    have hcs' : ∀ j u, (enCells es)[j]? = some u → (w.alloc (.cells #[] 43)).cell? ((⟨g, off, none⟩ : Addr).add j) = some u := by
      intro j u hu
      have hjl : j < (enCells es).length := by
        rcases Nat.lt_or_ge j (enCells es).length with h | h
        · exact h
        · rw [List.getElem?_eq_none h] at hu; cases hu
      rw [enCells_len] at hjl
      have hq : j / 3 < es.length := by omega
      have f := enCells_get es (j / 3) hq (j % 3) (Nat.mod_lt _ (by decide))
      rw [show j / 3 * 3 + j % 3 = j by omega] at f
      rw [f] at hu
      obtain ⟨c0, c1, c2⟩ := hcs (j / 3) hq
      have key : w.cell? ⟨g, off + j, none⟩ = some u := by
        rcases (by omega : j % 3 = 0 ∨ j % 3 = 1 ∨ j % 3 = 2) with e | e | e
        · rw [e] at hu; simp only [encE, List.getElem?_cons_zero, Option.some.injEq] at hu
          rw [← hu, ← c0, show off + j / 3 * 3 = off + j by omega]
        · rw [e] at hu; simp only [encE, List.getElem?_cons_zero, List.getElem?_cons_succ, Option.some.injEq] at hu
          rw [← hu, ← c1, show off + j / 3 * 3 + 1 = off + j by omega]
        · rw [e] at hu; simp only [encE, List.getElem?_cons_zero, List.getElem?_cons_succ, Option.some.injEq] at hu
          rw [← hu, ← c2, show off + j / 3 * 3 + 2 = off + j by omega]
      rw [Addr.add_lit, World.cell?_alloc_past _ _ _ (lt_of_cell key), key]
    have Hcs := Lib.hid hcs'
    have HR := Lib.hid (And.intro hel hR)
    rw [← hel]
    clear hcs hcs' hR h hel h0
    go_enter Try.func39, Try.ntmps39
    go_wp2_with (at_builtin; refine wpList_append_own _ rfl _ _ 29 rfl w.heap.size 43 i0 (.agg #[.string ⟨#[]⟩, .int .u32 0, .slice none 0 0]) 3 48 Try.underlying29 hi hz0 hz1 hz2 rfl (by decide) (.slice (some ⟨w.heap.size, 0, none⟩) 0 0) 0 [] rfl (World.ownsRow_made w #[] 0 (Nat.le_refl _) (Nat.zero_le _) rfl) ⟨g, off, none⟩ es.length cap (enCells es) rfl (enCells_len es) Hcs.out (enCells_oneCell es) (by unfold maxLen; omega) (by omega) (by simp) ?_; intro v' w1 hown hgr _)
    go_ret
    simp only [Nat.zero_add, List.nil_append] at hown
    exact ⟨v', es, rfl, HR.out.1, hown, HR.out.2, ((Chg.refl [] w).alloc _).grown hgr (by simp [Value.ownBlock])⟩
end Go.Proofs.Ytnkacmcggcdlpaa
