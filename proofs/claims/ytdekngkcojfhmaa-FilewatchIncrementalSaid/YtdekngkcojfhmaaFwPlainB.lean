/- File events, plain: what a batch holds; batches in order. -/
import Derived.Test.YtdekngkcojfhmaaFwPlain
namespace Go.Proofs.Ytdekngkcojfhmaa
set_option linter.unusedVariables false
set_option linter.unusedSimpArgs false
theorem snocInd {α : Type} {p : List α → Prop} (h0 : p []) (h1 : ∀ l x, p l → p (l ++ [x])) (l : List α) : p l := by
  have h : ∀ r : List α, p r.reverse := by
    intro r
    induction r with
    | nil => exact h0
    | cons x r ih => rw [List.reverse_cons]; exact h1 _ x ih
  have := h l.reverse
  rwa [List.reverse_reverse] at this
/-- what the events of a file come to -/
def kof (E : List FEv) (p : ByteArray) : Int := E.foldl (fun k e => if e.2.1 = p then mrg k e.2.2 else k) 0
theorem kof_snoc (E : List FEv) (e : FEv) (p : ByteArray) : kof (E ++ [e]) p = if e.2.1 = p then mrg (kof E p) e.2.2 else kof E p := by simp [kof, List.foldl_append]
theorem mgd_get (E : List FEv) (p : ByteArray) : (∀ e, aget (mgd E) p = some e → e.2.1 = p ∧ e.2.2 = kof E p ∧ ∃ e' ∈ E, e'.1 = e.1 ∧ e'.2.1 = p) ∧ (aget (mgd E) p = none → kof E p = 0 ∧ ∀ e ∈ E, e.2.1 ≠ p) := by
  refine snocInd (p := fun E => (∀ e, aget (mgd E) p = some e → e.2.1 = p ∧ e.2.2 = kof E p ∧ ∃ e' ∈ E, e'.1 = e.1 ∧ e'.2.1 = p) ∧ (aget (mgd E) p = none → kof E p = 0 ∧ ∀ e ∈ E, e.2.1 ≠ p)) ?_ ?_ E
  · simp [mgd, kof, aget_nil]
  · intro E x ih
    rw [mgd_snoc, kof_snoc]
    unfold mgStep
    rw [aget_ups]
    by_cases hx : x.2.1 = p
    · subst hx
      simp only [if_true]
      refine ⟨?_, by simp⟩
      rintro e he
      simp only [Option.some.injEq] at he
      subst he
      refine ⟨rfl, ?_, x, by simp, rfl, rfl⟩
      have hk : kd (aget (mgd E) x.2.1) = kof E x.2.1 := by
        cases ha : aget (mgd E) x.2.1 with
        | none => rw [(ih.2 ha).1]; rfl
        | some e => rw [← (ih.1 e ha).2.1]; rfl
      simp only [hk]
    · simp only [if_neg hx]
      refine ⟨fun e he => ?_, fun hn => ⟨(ih.2 hn).1, fun e he => ?_⟩⟩
      · obtain ⟨h1, h2, e', h3, h4⟩ := ih.1 e he
        exact ⟨h1, h2, e', by simp [h3], h4⟩
      · rcases List.mem_append.1 he with he | he
        · exact (ih.2 hn).2 e he
        · rw [List.mem_singleton.1 he]; exact hx
theorem nodup_upsF {es : List (ByteArray × FEv)} (h : (es.map (·.1)).Nodup) (x : ByteArray) (v : FEv) : ((ups es x v).map (·.1)).Nodup := by
  induction es with
  | nil => simp [ups]
  | cons q r ih =>
    rw [List.map_cons, List.nodup_cons] at h
    unfold ups
    split
    · rename_i hq
      rw [List.map_cons, List.nodup_cons]
      exact ⟨by rw [← hq]; exact h.1, h.2⟩
    · rename_i hq
      rw [List.map_cons, List.nodup_cons]
      refine ⟨fun hm => ?_, ih h.2⟩
      obtain ⟨y, hy, hye⟩ := List.mem_map.1 hm
      have hg := aget_of_mem (ih h.2) (show (y.1, y.2) ∈ ups r x v from hy)
      rw [aget_ups] at hg
      split at hg
      · rename_i hxy; exact hq (by rw [← hye, ← hxy])
      · exact h.1 (List.mem_map.2 ⟨_, aget_mem hg, hye⟩)
theorem mgd_nodup (E : List FEv) : ((mgd E).map (·.1)).Nodup := by
  refine snocInd (p := fun E => ((mgd E).map (·.1)).Nodup) ?_ ?_ E
  · simp [mgd]
  · intro E x ih; rw [mgd_snoc]; exact nodup_upsF ih _ _
theorem mgd_key (E : List FEv) (p : ByteArray) : p ∈ (mgd E).map (·.1) ↔ (aget (mgd E) p).isSome := by
  constructor
  · intro h
    obtain ⟨q, hq, rfl⟩ := List.mem_map.1 h
    rw [aget_of_mem (mgd_nodup E) (show (q.1, q.2) ∈ mgd E from hq)]; rfl
  · intro h
    obtain ⟨e, he⟩ := Option.isSome_iff_exists.1 h
    exact List.mem_map.2 ⟨_, aget_mem he, rfl⟩
theorem nb_mem (E : List FEv) (e : FEv) : e ∈ nbE E ↔ aget (mgd E) e.2.1 = some e ∧ e.2.2 ≠ 0 := by
  unfold nbE
  rw [List.mem_filterMap]
  constructor
  · rintro ⟨k, _, hk⟩
    obtain ⟨h1, h2⟩ := Option.filter_eq_some_iff.1 hk
    have := ((mgd_get E k).1 e h1).1
    subst this
    exact ⟨h1, by simpa using h2⟩
  · rintro ⟨h1, h2⟩
    exact ⟨e.2.1, (srt_mem _ _).2 ((mgd_key E _).2 (by rw [h1]; rfl)), Option.filter_eq_some_iff.2 ⟨h1, by simpa using h2⟩⟩
theorem nb_sorted (E : List FEv) : (nbE E).Pairwise fun a b => bl a.2.1 < bl b.2.1 := by
  unfold nbE
  rw [List.pairwise_filterMap]
  refine (srt_lt (mgd_nodup E)).imp ?_
  intro a b hab x hx y hy
  have h1 := ((mgd_get E a).1 x (Option.filter_eq_some_iff.1 hx).1).1
  have h2 := ((mgd_get E b).1 y (Option.filter_eq_some_iff.1 hy).1).1
  rw [h1, h2]; exact hab
theorem nb_time (E : List FEv) (e : FEv) (h : e ∈ nbE E) : ∃ e' ∈ E, e'.1 = e.1 := by
  obtain ⟨_, _, e', h1, h2, _⟩ := (mgd_get E e.2.1).1 e ((nb_mem E e).1 h).1
  exact ⟨e', h1, h2⟩
/-- the batches' order, and each batch -/
theorem bat_inv (d : Int) : ∀ (rest G : List FEv), (G ++ rest).Pairwise (fun a b => a.1 ≤ b.1) →
    (bat d G rest).Pairwise (fun a b => a.1 ≤ b.1) ∧ ∀ b ∈ bat d G rest, b.2 ≠ [] ∧ (b.2.Pairwise fun x y => bl x.2.1 < bl y.2.1) ∧ (∀ e ∈ b.2, e.1 + d ≤ b.1) ∧ ∃ e ∈ rest, b.1 = e.1 + d := by
  intro rest
  induction rest with
  | nil => intro G _; simp [bat]
  | cons x rest ih =>
    intro G hG
    unfold bat
    split
    · obtain ⟨h1, h2⟩ := ih (G ++ [x]) (by simpa using hG)
      exact ⟨h1, fun b hb => ⟨(h2 b hb).1, (h2 b hb).2.1, (h2 b hb).2.2.1, by obtain ⟨e, he, h⟩ := (h2 b hb).2.2.2; exact ⟨e, by simp [he], h⟩⟩⟩
    · have hr : rest.Pairwise fun a b => a.1 ≤ b.1 := by
        have := (List.pairwise_append.1 hG).2.1
        exact (List.pairwise_cons.1 this).2
      obtain ⟨h1, h2⟩ := ih [] (by simpa using hr)
      have hx : ∀ e ∈ rest, x.1 ≤ e.1 := (List.pairwise_cons.1 (List.pairwise_append.1 hG).2.1).1
      have hg : ∀ e ∈ G ++ [x], e.1 ≤ x.1 := by
        intro e he
        rcases List.mem_append.1 he with he | he
        · exact (List.pairwise_append.1 hG).2.2 e he x (by simp)
        · rw [List.mem_singleton.1 he]; exact Int.le_refl _
      have hall : ∀ b ∈ (if nbE (G ++ [x]) = [] then [] else [(x.1 + d, nbE (G ++ [x]))]), nbE (G ++ [x]) ≠ [] ∧ b = (x.1 + d, nbE (G ++ [x])) := by
        intro b hb
        split at hb
        · simp at hb
        · exact ⟨by assumption, by simpa using hb⟩
      refine ⟨List.pairwise_append.2 ⟨by split <;> simp, h1, fun a ha b hb => ?_⟩, fun b hb => ?_⟩
      · obtain ⟨e, he, h⟩ := (h2 b hb).2.2.2
        rw [(hall a ha).2, h]
        have := hx e he
        simp only; omega
      · rcases List.mem_append.1 hb with hb | hb
        · obtain ⟨hn, rfl⟩ := hall b hb
          refine ⟨hn, nb_sorted _, fun e he => ?_, x, by simp, rfl⟩
          obtain ⟨e', h3, h4⟩ := nb_time _ e he
          have := hg e' h3
          simp only; omega
        · exact ⟨(h2 b hb).1, (h2 b hb).2.1, (h2 b hb).2.2.1, by obtain ⟨e, he, h⟩ := (h2 b hb).2.2.2; exact ⟨e, by simp [he], h⟩⟩
end Go.Proofs.Ytdekngkcojfhmaa
