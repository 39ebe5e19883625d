/- Dependency graphs, plain: topological orders, levels, the transitive reduction. -/
import Derived.Test.YtenjjiilcdgimaaDgPlain
namespace Go.Proofs.Ytenjjiilcdgimaa
set_option linter.unusedVariables false
set_option linter.unusedSimpArgs false
/-- all dependencies of a key that has not been placed have been placed -/
def Rdy (E : List Ed) (O : List I3) (k : I3) : Prop := k ∉ O ∧ ∀ y ∈ nx E k, y ∈ O
instance (E : List Ed) (O : List I3) (k : I3) : Decidable (Rdy E O k) := by unfold Rdy; infer_instance
structure TopI (E : List Ed) (O : List I3) : Prop where
  nd : O.Nodup
  sub : ∀ k ∈ O, k ∈ ks E
  ord : ∀ A k B, O = A ++ k :: B → ∀ y ∈ nx E k, y ∈ A
theorem TopI.nil (E : List Ed) : TopI E [] := ⟨by simp, by simp, fun A k B h => by simp at h⟩
theorem TopI.more {E : List Ed} {O L : List I3} (h : TopI E O) (hn : L.Nodup) (hs : ∀ k ∈ L, k ∈ ks E) (hr : ∀ k ∈ L, Rdy E O k) : TopI E (O ++ L) := by
  refine ⟨List.nodup_append.2 ⟨h.nd, hn, fun a ha b hb e => (hr b hb).1 (e ▸ ha)⟩, fun k hk => ?_, fun A k B hA y hy => ?_⟩
  · rcases List.mem_append.1 hk with hk | hk
    · exact h.sub k hk
    · exact hs k hk
  · rcases List.append_eq_append_iff.1 hA with ⟨A', h1, h2⟩ | ⟨B', h1, h2⟩
    · have hk : k ∈ L := by rw [h2]; simp
      rw [h1]
      exact List.mem_append.2 (Or.inl ((hr k hk).2 y hy))
    · cases B' with
      | nil =>
        simp only [List.nil_append] at h2
        have hk : k ∈ L := by rw [← h2]; simp
        simp only [List.append_nil] at h1
        rw [← h1]
        exact (hr k hk).2 y hy
      | cons z B' =>
        simp only [List.cons_append, List.cons.injEq] at h2
        rw [← h2.1] at h1
        exact h.ord A k B' h1 y hy
theorem TopI.snoc {E : List Ed} {O : List I3} {k : I3} (h : TopI E O) (hk : k ∈ ks E) (hr : Rdy E O k) : TopI E (O ++ [k]) :=
  h.more (by simp) (fun x hx => by rw [List.mem_singleton.1 hx]; exact hk) (fun x hx => by rw [List.mem_singleton.1 hx]; exact hr)
theorem TopI.len {E : List Ed} {O : List I3} (h : TopI E O) : O.length ≤ (ks E).length := nodup_le h.nd h.sub
theorem cyc_of (E : List Ed) : ∀ (n : Nat) (U : List I3), U.length = n → U.Nodup → U ≠ [] → (∀ u ∈ U, ∃ y ∈ U, Reach E u y) → ∃ x, Reach E x x := by
  intro n
  induction n with
  | zero => intro U h _ hne _; exact absurd (List.eq_nil_of_length_eq_zero h) hne
  | succ n ih =>
    intro U hl hnd hne hs
    cases U with
    | nil => exact absurd rfl hne
    | cons u r =>
      have hnd' := List.nodup_cons.1 hnd
      obtain ⟨y, hy, hyr⟩ := hs u (by simp)
      rcases List.mem_cons.1 hy with e | hy
      · exact ⟨u, e ▸ hyr⟩
      · refine ih r (by simpa using hl) hnd'.2 (fun e => by rw [e] at hy; simp at hy) fun v hv => ?_
        obtain ⟨z, hz, hzr⟩ := hs v (by simp [hv])
        rcases List.mem_cons.1 hz with e | hz
        · exact ⟨y, hy, hzr.trans (e ▸ hyr)⟩
        · exact ⟨z, hz, hzr⟩
theorem TopI.stuck {E : List Ed} {O : List I3} (h : TopI E O) (hl : O.length < (ks E).length) (hn : ∀ k ∈ ks E, ¬ Rdy E O k) : ∃ x, Reach E x x := by
  have hU : ∃ k ∈ ks E, k ∉ O := by
    refine Classical.byContradiction fun hc => ?_
    have := nodup_le (l := ks E) (m := O) (ks_spec E).1.nodup fun x hx => Classical.byContradiction fun ho => hc ⟨x, hx, ho⟩
    omega
  obtain ⟨k, hk, hko⟩ := hU
  refine cyc_of E _ ((ks E).filter fun x => decide (x ∉ O)) rfl ((ks_spec E).1.nodup.sublist List.filter_sublist) (fun e => ?_) fun u hu => ?_
  · have : k ∈ (ks E).filter fun x => decide (x ∉ O) := List.mem_filter.2 ⟨hk, by simpa using hko⟩
    rw [e] at this
    simp at this
  · obtain ⟨h1, h2⟩ := List.mem_filter.1 hu
    have h2 : u ∉ O := by simpa using h2
    have hr := hn u h1
    unfold Rdy at hr
    have : ∃ y ∈ nx E u, y ∉ O := Classical.byContradiction fun hc => hr ⟨h2, fun y hy => Classical.byContradiction fun ho => hc ⟨y, hy, ho⟩⟩
    obtain ⟨y, hy, hyo⟩ := this
    have hE := ((nx_spec E u).2.1 y).1 hy
    exact ⟨y, List.mem_filter.2 ⟨reach_ks (.one hE), by simpa using hyo⟩, .one hE⟩
theorem TopI.full {E : List Ed} {O : List I3} (h : TopI E O) (hl : O.length = (ks E).length) : ∀ k ∈ ks E, k ∈ O := by
  intro k hk
  refine Classical.byContradiction fun ho => ?_
  have := nodup_le (l := k :: O) (m := ks E) (List.nodup_cons.2 ⟨ho, h.nd⟩) fun x hx => by
    rcases List.mem_cons.1 hx with e | e
    · exact e ▸ hk
    · exact h.sub x e
  simp only [List.length_cons] at this
  omega
/-- the place of a key -/
def idx (O : List I3) (k : I3) : Nat := O.findIdx fun x => decide (x = k)
theorem idx_lt {O : List I3} {k : I3} (h : k ∈ O) : idx O k < O.length := List.findIdx_lt_length_of_exists ⟨k, h, by simp⟩
theorem idx_get {O : List I3} {k : I3} (h : idx O k < O.length) : O[idx O k] = k := by
  have := List.findIdx_getElem (w := h)
  simp only [decide_eq_true_eq] at this
  exact this
theorem idx_at {O : List I3} (h : O.Nodup) (i : Nat) (hi : i < O.length) : idx O O[i] = i := by
  have h1 : O[i] ∈ O := List.getElem_mem hi
  have h2 := idx_get (idx_lt h1)
  exact (List.getElem_inj h).1 h2
theorem idx_app {A B : List I3} {k : I3} (h : k ∉ A) : idx (A ++ k :: B) k = A.length := by
  unfold idx
  rw [List.findIdx_append, if_neg]
  · simp [List.findIdx_cons]
  · rw [List.findIdx_lt_length]
    rintro ⟨x, hx, e⟩
    simp only [decide_eq_true_eq] at e
    exact h (e ▸ hx)
theorem idx_mem_app {A C : List I3} {k : I3} (h : k ∈ A) : idx (A ++ C) k < A.length := by
  have h1 : A.findIdx (fun x => decide (x = k)) < A.length := idx_lt h
  unfold idx
  rw [List.findIdx_append, if_pos h1]
  exact h1
theorem TopI.edge {E : List Ed} {O : List I3} (h : TopI E O) (hf : ∀ k ∈ ks E, k ∈ O) {x y : I3} (he : (x, y) ∈ E) : idx O y < idx O x ∧ idx O x < O.length := by
  have hx : x ∈ O := hf x (((ks_spec E).2.1 _).2 ⟨_, he, Or.inl rfl⟩)
  obtain ⟨A, B, hA⟩ := List.append_of_mem hx
  have hxA : x ∉ A := by
    intro hm
    have := h.nd
    rw [hA, List.nodup_append] at this
    exact this.2.2 x hm x (by simp) rfl
  have hy : y ∈ A := h.ord A x B hA y (((nx_spec E x).2.1 y).2 he)
  have e1 : idx O x = A.length := by rw [hA]; exact idx_app hxA
  have e2 : idx O y < A.length := by rw [hA]; exact idx_mem_app hy
  exact ⟨by omega, idx_lt hx⟩
theorem rank_reach {E : List Ed} {r : I3 → Nat} (hr : ∀ x y, (x, y) ∈ E → r y < r x) {x y : I3} (h : Reach E x y) : r y < r x := by
  induction h with
  | one h => exact hr _ _ h
  | step h _ ih => have := hr _ _ h; omega
theorem TopI.acyclic {E : List Ed} {O : List I3} (h : TopI E O) (hf : ∀ k ∈ ks E, k ∈ O) (x : I3) : ¬ Reach E x x := fun hx =>
  absurd (rank_reach (r := idx O) (fun a b hab => (h.edge hf hab).1) hx) (Nat.lt_irrefl _)
/-! ### the transitive reduction -/
/-- an edge that a longer path implies -/
def Imp (E : List Ed) (e : Ed) : Prop := ∃ k, (e.1, k) ∈ E ∧ Reach E k e.2
def IsRed (E R : List Ed) : Prop := R.Nodup ∧ ∀ e, e ∈ R ↔ e ∈ E ∧ ¬ Imp E e
theorem red_edge {E R : List Ed} (h : IsRed E R) {r : I3 → Nat} (hr : ∀ x y, (x, y) ∈ E → r y < r x) : ∀ (n : Nat) (a b : I3), (a, b) ∈ E → r a - r b < n → Reach R a b := by
  intro n
  induction n with
  | zero => intro a b _ h; omega
  | succ n ih =>
    intro a b hab hn
    have hp : ∀ k c, Reach E k c → r k - r c < n → Reach R k c := by
      intro k c hkc
      induction hkc with
      | one hkc => exact fun hlt => ih _ _ hkc hlt
      | @step k m c hkm hmc ihm =>
        intro hlt
        have h1 := hr _ _ hkm
        have h2 := rank_reach hr hmc
        exact (ih k m hkm (by omega)).trans (ihm (by omega))
    by_cases hi : Imp E (a, b)
    · obtain ⟨k, h1, h2⟩ := hi
      simp only at h1 h2
      have e1 := hr _ _ h1
      have e2 := rank_reach hr h2
      exact (hp a k (.one h1) (by omega)).trans (hp k b h2 (by omega))
    · exact .one ((h.2 _).2 ⟨hab, hi⟩)
theorem red_reach {E R : List Ed} (h : IsRed E R) {r : I3 → Nat} (hr : ∀ x y, (x, y) ∈ E → r y < r x) (x y : I3) : Reach R x y ↔ Reach E x y := by
  refine ⟨fun hx => hx.mono fun e he => ((h.2 e).1 he).1, fun hx => ?_⟩
  induction hx with
  | one h1 => exact red_edge h hr _ _ _ h1 (Nat.lt_succ_self _)
  | step h1 _ ih => exact (red_edge h hr _ _ _ h1 (Nat.lt_succ_self _)).trans ih
theorem red_drop {E R : List Ed} (h : IsRed E R) (i : Nat) (hi : i < R.length) : ¬ Reach (R.take i ++ R.drop (i + 1)) R[i].1 R[i].2 := by
  have hsplit : R = R.take i ++ R[i] :: R.drop (i + 1) := by
    rw [← List.drop_eq_getElem_cons hi, List.take_append_drop]
  have hnot : R[i] ∉ R.take i ++ R.drop (i + 1) := by
    have hn : (R.take i ++ R[i] :: R.drop (i + 1)).Nodup := hsplit ▸ h.1
    rw [List.nodup_append] at hn
    intro hm
    rcases List.mem_append.1 hm with hm | hm
    · exact hn.2.2 _ hm R[i] List.mem_cons_self rfl
    · exact (List.nodup_cons.1 hn.2.1).1 hm
  have hsub : ∀ e ∈ R.take i ++ R.drop (i + 1), e ∈ R := by
    intro e he
    rcases List.mem_append.1 he with he | he
    · exact List.mem_of_mem_take he
    · exact List.mem_of_mem_drop he
  have hmem := (h.2 _).1 (List.getElem_mem hi)
  intro hr
  cases hr with
  | one h1 => exact hnot h1
  | step h1 h2 =>
    exact hmem.2 ⟨_, ((h.2 _).1 (hsub _ h1)).1, h2.mono fun e he => ((h.2 e).1 (hsub e he)).1⟩
theorem red_nil {E : List Ed} (h : IsRed E []) {r : I3 → Nat} (hr : ∀ x y, (x, y) ∈ E → r y < r x) : E = [] := by
  cases E with
  | nil => rfl
  | cons e E =>
    have h1 := (red_reach h hr e.1 e.2).2 (.one (by simp))
    cases h1 with
    | one h1 => simp at h1
    | step h1 _ => simp at h1
/-- the reduction's loop -/
def redS (E : List Ed) (acc : List Ed) (e : Ed) (b : Bool) : List Ed := if b = true ∨ e ∈ acc then acc else acc ++ [e]
theorem red_step {E acc : List Ed} (done : List Ed) (e : Ed) (b : Bool) (hb : b = true ↔ Imp E e) (h : acc.Nodup ∧ ∀ x, x ∈ acc ↔ x ∈ done ∧ ¬ Imp E x) :
    (redS E acc e b).Nodup ∧ ∀ x, x ∈ redS E acc e b ↔ x ∈ done ++ [e] ∧ ¬ Imp E x := by
  unfold redS
  by_cases hc : b = true ∨ e ∈ acc
  · rw [if_pos hc]
    refine ⟨h.1, fun x => ?_⟩
    rw [h.2, List.mem_append, List.mem_singleton]
    constructor
    · rintro ⟨h1, h2⟩; exact ⟨Or.inl h1, h2⟩
    · rintro ⟨h1 | h1, h2⟩
      · exact ⟨h1, h2⟩
      · rcases hc with hc | hc
        · exact absurd (h1 ▸ hb.1 hc) h2
        · rw [h1]; exact (h.2 e).1 hc
  · rw [if_neg hc]
    refine ⟨List.nodup_append.2 ⟨h.1, by simp, fun a ha c hc' e' => hc (Or.inr (by simp at hc'; rw [← hc', ← e']; exact ha))⟩, fun x => ?_⟩
    rw [List.mem_append, h.2, List.mem_append, List.mem_singleton]
    constructor
    · rintro (⟨h1, h2⟩ | h1)
      · exact ⟨Or.inl h1, h2⟩
      · exact ⟨Or.inr h1, fun hi => hc (Or.inl (hb.2 (h1 ▸ hi)))⟩
    · rintro ⟨h1 | h1, h2⟩
      · exact Or.inl ⟨h1, h2⟩
      · exact Or.inr h1
end Go.Proofs.Ytenjjiilcdgimaa
