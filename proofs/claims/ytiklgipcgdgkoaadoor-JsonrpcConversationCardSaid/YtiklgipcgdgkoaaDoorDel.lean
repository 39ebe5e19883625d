/- delete and clear of a map, over association lists. -/
import Derived.Test.YtiklgipcgdgkoaaDoorBase
namespace Go.Proofs.YtiklgipcgdgkoaaDoor
open Go.RowKit Go.ChangeMaps Go.MapKept
open Go.Maps (Keyed)
set_option linter.unusedVariables false
section
variable {P : Program} {K : Type} {kt : TypeId} {ek : K → Value}
theorem adel_none {V : Type} [DecidableEq K] {es : List (K × V)} {x : K} (h : ∀ p ∈ es, p.1 ≠ x) : adel es x = es := List.filter_eq_self.2 (by simpa using h)
theorem adel_ups {V : Type} [DecidableEq K] {es : List (K × V)} {x : K} {v : V} (h : aget es x = none) : adel (ups es x v) x = es := by
  have h1 := aget_none h
  rw [ups_none h1]
  unfold adel
  rw [List.filter_append, List.filter_eq_self.2 (by simpa using h1)]
  simp
theorem mem_adel {V : Type} [DecidableEq K] {es : List (K × V)} {x : K} {p : K × V} (h : p ∈ adel es x) : p ∈ es ∧ p.1 ≠ x := by
  unfold adel at h
  rw [List.mem_filter] at h
  exact ⟨h.1, by simpa using h.2⟩
/-- 'clear(m)' -/
theorem MapAt.clear {t et : TypeId} (ht : P.underlying t = some (.map kt et)) {w : World} {b : Nat} {es : List (K × Value)} (h : MapAt P kt ek w b es) (ty : TypeId) :
    ∃ o, (Builtin.clear_ #[t] ty #[.map (some b)]).run P w = .ok (.tuple #[]) (setBlock w b o) ∧ MapAt P kt ek (setBlock w b o) b [] := by
  obtain ⟨arr, clock, hb, he, hs, hok⟩ := h
  exact ⟨.map #[] clock, by simp [Builtin.clear_, run_underlying ht, MapKept.run_getObj_map hb, MapKept.run_setObj_map _ hb, Result.andThen, setBlock], _, _, heap_setBlock_same hb _, by simp, stamped_empty _, by simp⟩
variable [DecidableEq K]
theorem erase_entries (l : List MapEntry) (j : Nat) (e0 : MapEntry) (hj : l[j]? = some e0) (es : List (K × Value)) (hinj : ∀ x y, ek x = ek y → x = y) (he : l.map (fun e => (e.key, e.val)) = es.map (fun p => (ek p.1, p.2))) (hnd : (es.map (·.1)).Nodup) (x : K) (hx : e0.key = ek x) :
    (l.eraseIdx j).map (fun e => (e.key, e.val)) = (adel es x).map (fun p => (ek p.1, p.2)) := by
  induction l generalizing j es with
  | nil => simp at hj
  | cons e r ih =>
    cases es with
    | nil => simp at he
    | cons p s =>
      simp only [List.map_cons, List.cons.injEq, Prod.mk.injEq] at he
      rw [List.map_cons, List.nodup_cons] at hnd
      cases j with
      | zero =>
        simp only [List.getElem?_cons_zero, Option.some.injEq] at hj
        subst hj
        have : p.1 = x := hinj _ _ (he.1.1.symm.trans hx)
        have h2 : adel (p :: s) x = s := by
          unfold adel
          rw [List.filter_cons, this]
          simp only [ne_eq, not_true_eq_false, decide_false, Bool.false_eq_true, if_false]
          exact List.filter_eq_self.2 fun q hq => by
            simp only [decide_eq_true_eq]
            intro e; exact hnd.1 (List.mem_map.2 ⟨q, hq, by rw [e, this]⟩)
        rw [h2]
        exact he.2
      | succ j =>
        simp only [List.getElem?_cons_succ] at hj
        have hne : p.1 ≠ x := by
          intro e1
          have h1 : (e0.key, e0.val) ∈ s.map (fun p => (ek p.1, p.2)) := he.2 ▸ List.mem_map.2 ⟨e0, List.mem_of_getElem? hj, rfl⟩
          obtain ⟨q, hq, e2⟩ := List.mem_map.1 h1
          simp only [Prod.mk.injEq] at e2
          have : q.1 = x := hinj _ _ (by rw [e2.1, hx])
          exact hnd.1 (List.mem_map.2 ⟨q, hq, by rw [this, e1]⟩)
        have h2 : adel (p :: s) x = p :: adel s x := by unfold adel; rw [List.filter_cons]; simp [hne]
        rw [h2, List.eraseIdx_cons_succ, List.map_cons, List.map_cons, ih j hj s he.2 hnd.2, he.1.1, he.1.2]
/-- 'delete(m, k)' -/
theorem MapAt.delete (hk : Keyed P kt) (hinj : ∀ x y, ek x = ek y → x = y) {t et : TypeId} (ht : P.underlying t = some (.map kt et)) {w : World} {b : Nat} {es : List (K × Value)} (h : MapAt P kt ek w b es) {x : K} (hx : KeyOk P kt (ek x)) (ty : TypeId) :
    ∃ o, (Builtin.delete_ #[t, kt] ty #[.map (some b), ek x]).run P w = .ok (.tuple #[]) (setBlock w b o) ∧ MapAt P kt ek (setBlock w b o) b (adel es x) := by
  have hnd := h.nodup
  obtain ⟨arr, clock, hb, he, hs, hok⟩ := h
  obtain ⟨l, hl⟩ := hx
  have hkeys : ∀ e ∈ arr.toList, ∃ l, keyOf P kt e.key = some l := by
    intro e hm
    have h1 : (e.key, e.val) ∈ es.map (fun p => (ek p.1, p.2)) := he ▸ List.mem_map.2 ⟨e, hm, rfl⟩
    obtain ⟨p, hp, e1⟩ := List.mem_map.1 h1
    obtain ⟨l', hl'⟩ := hok p hp
    simp only [Prod.mk.injEq] at e1
    exact ⟨l', e1.1 ▸ hl'⟩
  rcases hk.find w hl arr.toList hkeys with ⟨h1, h2⟩ | ⟨j, e0, h1, h2, h3⟩
  · refine ⟨.map arr clock, by simp [Builtin.delete_, run_underlying ht, MapKept.run_getObj_map hb, hk.check w _ hl, h1, MapKept.run_setObj_map _ hb, Result.andThen, setBlock], _, _, heap_setBlock_same hb _, ?_, hs, fun p hp => hok p (mem_adel hp).1⟩
    rw [adel_none, he]
    intro p hp e1
    have h4 : (ek p.1, p.2) ∈ arr.toList.map (fun e => (e.key, e.val)) := he ▸ List.mem_map.2 ⟨p, hp, rfl⟩
    obtain ⟨e, hm, e2⟩ := List.mem_map.1 h4
    simp only [Prod.mk.injEq] at e2
    exact h2 e hm (by rw [e2.1, e1])
  · refine ⟨.map (arr.eraseIdxIfInBounds j) clock, by simp [Builtin.delete_, run_underlying ht, MapKept.run_getObj_map hb, hk.check w _ hl, h1, MapKept.run_setObj_map _ hb, Result.andThen, setBlock], _, _, heap_setBlock_same hb _, ?_, stamped_erase hs _, fun p hp => hok p (mem_adel hp).1⟩
    have hlt : j < arr.size := by have := (List.getElem?_eq_some_iff.1 h2).1; simpa using this
    rw [Array.eraseIdxIfInBounds, dif_pos hlt, Array.toList_eraseIdx]
    exact erase_entries arr.toList j e0 h2 es hinj he hnd x h3
end

end Go.Proofs.YtiklgipcgdgkoaaDoor
