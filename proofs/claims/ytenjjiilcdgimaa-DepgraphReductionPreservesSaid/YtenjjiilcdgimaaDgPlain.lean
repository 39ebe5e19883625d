/- Dependency graphs, plain: sorted keys, the graph, what is reachable. -/
import Derived.Test.YtenjjiilcdgimaaMem
namespace Go.Proofs.Ytenjjiilcdgimaa
set_option linter.unusedVariables false
set_option linter.unusedSimpArgs false
def cmpI (a b : Int) : Int := if a < b then -1 else if b < a then 1 else 0
def cmpK (a b : I3) : Int := if cmpI a.1 b.1 ≠ 0 then cmpI a.1 b.1 else if cmpI a.2.1 b.2.1 ≠ 0 then cmpI a.2.1 b.2.1 else cmpI a.2.2 b.2.2
theorem cmpI_cases (a b : Int) : (a < b ∧ cmpI a b = -1) ∨ (b < a ∧ cmpI a b = 1) ∨ (a = b ∧ cmpI a b = 0) := by
  unfold cmpI
  by_cases h1 : a < b
  · exact Or.inl ⟨h1, if_pos h1⟩
  · by_cases h2 : b < a
    · exact Or.inr (Or.inl ⟨h2, by rw [if_neg h1, if_pos h2]⟩)
    · exact Or.inr (Or.inr ⟨by omega, by rw [if_neg h1, if_neg h2]⟩)
def ltK (a b : I3) : Prop := a.1 < b.1 ∨ (a.1 = b.1 ∧ (a.2.1 < b.2.1 ∨ (a.2.1 = b.2.1 ∧ a.2.2 < b.2.2)))
theorem cmpK_lt (a b : I3) : cmpK a b < 0 ↔ ltK a b := by
  unfold cmpK ltK
  rcases cmpI_cases a.1 b.1 with ⟨h1, e1⟩ | ⟨h1, e1⟩ | ⟨h1, e1⟩ <;> rcases cmpI_cases a.2.1 b.2.1 with ⟨h2, e2⟩ | ⟨h2, e2⟩ | ⟨h2, e2⟩ <;> rcases cmpI_cases a.2.2 b.2.2 with ⟨h3, e3⟩ | ⟨h3, e3⟩ | ⟨h3, e3⟩ <;> simp [e1, e2, e3] <;> omega
theorem cmpK_eq (a b : I3) : cmpK a b = 0 ↔ a = b := by
  obtain ⟨a1, a2, a3⟩ := a
  obtain ⟨b1, b2, b3⟩ := b
  simp only [Prod.mk.injEq]
  unfold cmpK
  simp only
  rcases cmpI_cases a1 b1 with ⟨h1, e1⟩ | ⟨h1, e1⟩ | ⟨h1, e1⟩ <;> rcases cmpI_cases a2 b2 with ⟨h2, e2⟩ | ⟨h2, e2⟩ | ⟨h2, e2⟩ <;> rcases cmpI_cases a3 b3 with ⟨h3, e3⟩ | ⟨h3, e3⟩ | ⟨h3, e3⟩ <;> simp [e1, e2, e3] <;> omega
theorem ltK_trans {a b c : I3} (h : ltK a b) (k : ltK b c) : ltK a c := by unfold ltK at *; omega
theorem ltK_irrefl (a : I3) : ¬ ltK a a := by unfold ltK; omega
theorem ltK_total (a b : I3) : ltK a b ∨ a = b ∨ ltK b a := by
  by_cases h : a = b
  · exact Or.inr (Or.inl h)
  · have : ltK a b ∨ ltK b a := by
      obtain ⟨a1, a2, a3⟩ := a
      obtain ⟨b1, b2, b3⟩ := b
      simp only [Prod.mk.injEq] at h
      unfold ltK
      simp only
      omega
    exact this.elim Or.inl fun h => Or.inr (Or.inr h)
def SortedK (l : List I3) : Prop := l.Pairwise ltK
theorem SortedK.nodup {l : List I3} (h : SortedK l) : l.Nodup := List.Pairwise.imp (fun {a b} (hab : ltK a b) (e : a = b) => ltK_irrefl a (by rw [← e] at hab; exact hab)) h
/-- two sorted lists with the same members are one -/
theorem SortedK.ext : ∀ {l m : List I3}, SortedK l → SortedK m → (∀ x, x ∈ l ↔ x ∈ m) → l = m
  | [], [], _, _, _ => rfl
  | [], y :: m, _, _, h => absurd ((h y).2 (by simp)) (by simp)
  | x :: l, [], _, _, h => absurd ((h x).1 (by simp)) (by simp)
  | x :: l, y :: m, hl, hm, h => by
    have hl' := List.pairwise_cons.1 hl
    have hm' := List.pairwise_cons.1 hm
    have hxy : x = y := by
      rcases List.mem_cons.1 ((h x).1 (by simp)) with e | e
      · exact e
      · rcases List.mem_cons.1 ((h y).2 (by simp)) with e' | e'
        · exact e'.symm
        · exact absurd (ltK_trans (hl'.1 y e') (hm'.1 x e)) (ltK_irrefl x)
    subst hxy
    have hx1 : x ∉ l := fun e => ltK_irrefl x (hl'.1 x e)
    have hx2 : x ∉ m := fun e => ltK_irrefl x (hm'.1 x e)
    rw [SortedK.ext hl'.2 hm'.2 fun z => ?_]
    have := h z
    simp only [List.mem_cons] at this
    constructor
    · intro hz
      rcases this.1 (Or.inr hz) with e | e
      · exact absurd (e ▸ hz) hx1
      · exact e
    · intro hz
      rcases this.2 (Or.inr hz) with e | e
      · exact absurd (e ▸ hz) hx2
      · exact e
/-- where a key belongs -/
def posK (l : List I3) (k : I3) : Nat := (l.takeWhile fun x => decide (cmpK x k < 0)).length
def insK (l : List I3) (k : I3) : List I3 := if k ∈ l then l else l.take (posK l k) ++ k :: l.drop (posK l k)
theorem pos_le (l : List I3) (k : I3) : posK l k ≤ l.length := (List.takeWhile_sublist _).length_le
theorem takeWhile_len {α : Type} (f : α → Bool) : ∀ l : List α, l.take (l.takeWhile f).length = l.takeWhile f ∧ l.drop (l.takeWhile f).length = l.dropWhile f
  | [] => by simp
  | x :: r => by
    have ih := takeWhile_len f r
    rw [List.takeWhile_cons, List.dropWhile_cons]
    split
    · simp [ih.1, ih.2]
    · simp
theorem pos_take (l : List I3) (k : I3) : l.take (posK l k) = l.takeWhile fun x => decide (cmpK x k < 0) := (takeWhile_len _ l).1
theorem pos_drop (l : List I3) (k : I3) : l.drop (posK l k) = l.dropWhile fun x => decide (cmpK x k < 0) := (takeWhile_len _ l).2
theorem takeWhile_all {α : Type} (f : α → Bool) : ∀ (l : List α) (x : α), x ∈ l.takeWhile f → f x = true
  | [], x, h => by simp at h
  | y :: r, x, h => by
    rw [List.takeWhile_cons] at h
    split at h
    · rename_i hy
      rcases List.mem_cons.1 h with e | e
      · rw [e]; exact hy
      · exact takeWhile_all f r x e
    · simp at h
theorem mem_ins (l : List I3) (k x : I3) : x ∈ insK l k ↔ x = k ∨ x ∈ l := by
  unfold insK
  split
  · rename_i h
    exact ⟨Or.inr, fun hx => hx.elim (fun e => e ▸ h) id⟩
  · rw [List.mem_append, List.mem_cons]
    have : x ∈ l ↔ x ∈ l.take (posK l k) ∨ x ∈ l.drop (posK l k) := by
      rw [← List.mem_append, List.take_append_drop]
    rw [this]
    constructor
    · rintro (h | h | h) <;> simp [h]
    · rintro (h | h | h) <;> simp [h]
theorem dropWhile_ge {l : List I3} (h : SortedK l) (k : I3) : ∀ x ∈ l.dropWhile (fun x => decide (cmpK x k < 0)), ¬ ltK x k := by
  induction l with
  | nil => simp
  | cons y r ih =>
    have h' := List.pairwise_cons.1 h
    intro x hx
    rw [List.dropWhile_cons] at hx
    split at hx
    · exact ih h'.2 x hx
    · rename_i hy
      simp only [decide_eq_true_eq] at hy
      rw [cmpK_lt] at hy
      rcases List.mem_cons.1 hx with e | e
      · exact e ▸ hy
      · exact fun hxk => hy (ltK_trans (h'.1 x e) hxk)
theorem SortedK.ins {l : List I3} (h : SortedK l) (k : I3) : SortedK (insK l k) := by
  unfold insK
  split
  · exact h
  · rename_i hk
    have ht : ∀ x ∈ l.take (posK l k), ltK x k := by
      intro x hx
      rw [pos_take] at hx
      have := takeWhile_all _ _ _ hx
      simp only [decide_eq_true_eq] at this
      exact (cmpK_lt _ _).1 this
    have hd : ∀ x ∈ l.drop (posK l k), ltK k x := by
      intro x hx
      have hxl : x ∈ l := List.mem_of_mem_drop hx
      rw [pos_drop] at hx
      have := dropWhile_ge h k x hx
      rcases ltK_total x k with e | e | e
      · exact absurd e this
      · exact absurd (e ▸ hxl) hk
      · exact e
    unfold SortedK
    rw [List.pairwise_append]
    refine ⟨h.sublist (List.take_sublist _ _), List.pairwise_cons.2 ⟨hd, h.sublist (List.drop_sublist _ _)⟩, fun a ha b hb => ?_⟩
    rcases List.mem_cons.1 hb with e | e
    · exact e ▸ ht a ha
    · exact ltK_trans (ht a ha) (hd b e)
theorem ins_len (l : List I3) (k : I3) : (insK l k).length ≤ l.length + 1 := by
  unfold insK
  split
  · omega
  · simp [List.length_take, List.length_drop]; omega
/-! ### the graph -/
abbrev Ed := I3 × I3
abbrev Nx := List (I3 × List I3)
def gstep (G : Nx × List I3) (e : Ed) : Nx × List I3 := (ups G.1 e.1 (insK ((aget G.1 e.1).getD []) e.2), insK (insK G.2 e.1) e.2)
def gr (E : List Ed) : Nx × List I3 := E.foldl gstep ([], [])
def nx (E : List Ed) (k : I3) : List I3 := (aget (gr E).1 k).getD []
def ks (E : List Ed) : List I3 := (gr E).2
theorem gr_snoc (E : List Ed) (e : Ed) : gr (E ++ [e]) = gstep (gr E) e := by simp [gr, List.foldl_append]
theorem snocIndG {α : Type} {p : List α → Prop} (h0 : p []) (h1 : ∀ l x, p l → p (l ++ [x])) (l : List α) : p l := by
  have h : ∀ r : List α, p r.reverse := by
    intro r
    induction r with
    | nil => exact h0
    | cons x r ih => rw [List.reverse_cons]; exact h1 _ x ih
  have := h l.reverse
  rwa [List.reverse_reverse] at this
theorem nx_spec (E : List Ed) : ∀ k, SortedK (nx E k) ∧ (∀ y, y ∈ nx E k ↔ (k, y) ∈ E) ∧ (nx E k).length ≤ E.length := by
  refine snocIndG (p := fun E => ∀ k, SortedK (nx E k) ∧ (∀ y, y ∈ nx E k ↔ (k, y) ∈ E) ∧ (nx E k).length ≤ E.length) ?_ ?_ E
  · intro k
    simp [nx, gr, aget_nil, SortedK]
  · intro E e ih k
    unfold nx
    rw [gr_snoc]
    unfold gstep
    simp only [aget_ups]
    by_cases h : e.1 = k
    · subst h
      simp only [if_true, Option.getD_some]
      have h1 := ih e.1
      unfold nx at h1
      refine ⟨h1.1.ins _, fun y => ?_, ?_⟩
      · rw [mem_ins, h1.2.1, List.mem_append, List.mem_singleton]
        constructor
        · rintro (h | h)
          · exact Or.inr (by rw [h])
          · exact Or.inl h
        · rintro (h | h)
          · exact Or.inr h
          · exact Or.inl (by rw [← h])
      · have := ins_len ((aget (gr E).1 e.1).getD []) e.2
        have := h1.2.2
        simp; omega
    · simp only [if_neg h]
      have h1 := ih k
      unfold nx at h1
      refine ⟨h1.1, fun y => ?_, by have := h1.2.2; simp; omega⟩
      rw [h1.2.1, List.mem_append, List.mem_singleton]
      constructor
      · exact Or.inl
      · rintro (h2 | h2)
        · exact h2
        · exact absurd (by rw [← h2]) h
theorem ks_spec (E : List Ed) : SortedK (ks E) ∧ (∀ y, y ∈ ks E ↔ ∃ e ∈ E, y = e.1 ∨ y = e.2) ∧ (ks E).length ≤ 2 * E.length := by
  refine snocIndG (p := fun E => SortedK (ks E) ∧ (∀ y, y ∈ ks E ↔ ∃ e ∈ E, y = e.1 ∨ y = e.2) ∧ (ks E).length ≤ 2 * E.length) ?_ ?_ E
  · simp [ks, gr, SortedK]
  · intro E e ih
    unfold ks at ih ⊢
    rw [gr_snoc]
    unfold gstep
    refine ⟨(ih.1.ins _).ins _, fun y => ?_, ?_⟩
    · rw [mem_ins, mem_ins, ih.2.1]
      constructor
      · rintro (h | h | ⟨f, h1, h2⟩)
        · exact ⟨e, by simp, Or.inr h⟩
        · exact ⟨e, by simp, Or.inl h⟩
        · exact ⟨f, by simp [h1], h2⟩
      · rintro ⟨f, h1, h2⟩
        rcases List.mem_append.1 h1 with h1 | h1
        · exact Or.inr (Or.inr ⟨f, h1, h2⟩)
        · rw [List.mem_singleton.1 h1] at h2
          rcases h2 with h2 | h2
          · exact Or.inr (Or.inl h2)
          · exact Or.inl h2
    · have h1 := ins_len (insK (gr E).2 e.1) e.2
      have h2 := ins_len (gr E).2 e.1
      have h3 := ih.2.2
      simp only [List.length_append, List.length_cons, List.length_nil]
      omega
/-! ### what is reachable -/
inductive Reach (E : List Ed) : I3 → I3 → Prop
  | one {x y : I3} : (x, y) ∈ E → Reach E x y
  | step {x y z : I3} : (x, y) ∈ E → Reach E y z → Reach E x z
theorem Reach.trans {E : List Ed} {x y z : I3} (h : Reach E x y) (k : Reach E y z) : Reach E x z := by
  induction h with
  | one h => exact .step h k
  | step h _ ih => exact .step h (ih k)
theorem Reach.snoc {E : List Ed} {x y z : I3} (h : Reach E x y) (k : (y, z) ∈ E) : Reach E x z := h.trans (.one k)
theorem Reach.mono {E F : List Ed} (hs : ∀ e ∈ E, e ∈ F) {x y : I3} (h : Reach E x y) : Reach F x y := by
  induction h with
  | one h => exact .one (hs _ h)
  | step h _ ih => exact .step (hs _ h) ih
def rev (E : List Ed) : List Ed := E.map fun e => (e.2, e.1)
theorem mem_rev (E : List Ed) (x y : I3) : (x, y) ∈ rev E ↔ (y, x) ∈ E := by
  unfold rev
  rw [List.mem_map]
  constructor
  · rintro ⟨e, he, h⟩
    simp only [Prod.mk.injEq] at h
    rw [← h.1, ← h.2]
    exact he
  · intro h
    exact ⟨_, h, rfl⟩
theorem reach_rev {E : List Ed} {x y : I3} (h : Reach E x y) : Reach (rev E) y x := by
  induction h with
  | one h => exact .one ((mem_rev _ _ _).2 h)
  | step h _ ih => exact ih.snoc ((mem_rev _ _ _).2 h)
theorem reach_rev_iff (E : List Ed) (x y : I3) : Reach (rev E) y x ↔ Reach E x y := by
  refine ⟨fun h => ?_, reach_rev⟩
  have := reach_rev h
  refine this.mono fun e he => ?_
  have : rev (rev E) = E := by simp [rev, List.map_map, Function.comp_def]
  rwa [this] at he
/-- the search's state: what has been found, what is pending -/
structure DfsI (E : List Ed) (x : I3) (R P : List I3) : Prop where
  nd : R.Nodup
  sound : ∀ y ∈ R ++ P, Reach E x y
  first : ∀ y, (x, y) ∈ E → y ∈ R ++ P
  clos : ∀ y ∈ R, ∀ z, (y, z) ∈ E → z ∈ R ++ P
theorem DfsI.start (E : List Ed) (x : I3) : DfsI E x [] (nx E x) :=
  ⟨by simp, fun y hy => .one ((((nx_spec E x).2.1 y).1 (by simpa using hy))), fun y hy => by simpa using ((nx_spec E x).2.1 y).2 hy, by simp⟩
theorem DfsI.skip {E : List Ed} {x k : I3} {R P : List I3} (h : DfsI E x R (P ++ [k])) (hk : k ∈ R) : DfsI E x R P := by
  have hm : ∀ y, y ∈ R ++ (P ++ [k]) → y ∈ R ++ P := fun y hy => by
    rw [← List.append_assoc] at hy
    rcases List.mem_append.1 hy with h | h
    · exact h
    · rw [List.mem_singleton.1 h]; exact List.mem_append.2 (Or.inl hk)
  exact ⟨h.nd, fun y hy => h.sound y (by rw [← List.append_assoc]; exact List.mem_append.2 (Or.inl hy)), fun y hy => hm y (h.first y hy), fun y hy z hz => hm z (h.clos y hy z hz)⟩
theorem DfsI.visit {E : List Ed} {x k : I3} {R P : List I3} (h : DfsI E x R (P ++ [k])) (hk : k ∉ R) : DfsI E x (R ++ [k]) (P ++ nx E k) := by
  have hkr : Reach E x k := h.sound k (by simp)
  have hm : ∀ y, y ∈ R ++ (P ++ [k]) → y ∈ (R ++ [k]) ++ (P ++ nx E k) := fun y hy => by
    simp only [List.mem_append, List.mem_singleton] at hy ⊢
    rcases hy with h | h | h <;> simp [h]
  refine ⟨?_, fun y hy => ?_, fun y hy => hm y (h.first y hy), fun y hy z hz => ?_⟩
  · rw [List.nodup_append]
    exact ⟨h.nd, by simp, by intro a ha b hb e; simp at hb; exact hk (by rw [← hb, ← e]; exact ha)⟩
  · simp only [List.mem_append, List.mem_singleton] at hy
    rcases hy with (h1 | h1) | h1 | h1
    · exact h.sound y (by simp [h1])
    · rw [h1]; exact hkr
    · exact h.sound y (by simp [h1])
    · exact hkr.snoc (((nx_spec E k).2.1 y).1 h1)
  · rcases List.mem_append.1 hy with hy | hy
    · exact hm z (h.clos y hy z hz)
    · rw [List.mem_singleton.1 hy] at hz
      simp only [List.mem_append]
      exact Or.inr (Or.inr (((nx_spec E k).2.1 z).2 hz))
theorem reach_ks {E : List Ed} {x y : I3} (h : Reach E x y) : y ∈ ks E := by
  induction h with
  | one h => exact ((ks_spec E).2.1 _).2 ⟨_, h, Or.inr rfl⟩
  | step _ _ ih => exact ih
theorem nodup_le {l m : List I3} (h : l.Nodup) (hs : ∀ x ∈ l, x ∈ m) : l.length ≤ m.length := by
  induction l generalizing m with
  | nil => simp
  | cons x r ih =>
    have h' := List.nodup_cons.1 h
    have hx := hs x (by simp)
    have := ih (m := m.erase x) h'.2 fun y hy => (List.mem_erase_of_ne (fun e : y = x => h'.1 (by rw [← e]; exact hy))).2 (hs y (by simp [hy]))
    have hl := List.length_erase_of_mem hx
    have := List.length_pos_of_mem hx
    simp only [List.length_cons]
    omega
theorem DfsI.len {E : List Ed} {x : I3} {R P : List I3} (h : DfsI E x R P) : R.length ≤ (ks E).length :=
  nodup_le h.nd fun y hy => reach_ks (h.sound y (by simp [hy]))
theorem DfsI.fin {E : List Ed} {x : I3} {R : List I3} (h : DfsI E x R []) (y : I3) : y ∈ R ↔ Reach E x y := by
  refine ⟨fun hy => h.sound y (by simp [hy]), fun hy => ?_⟩
  have hc : ∀ a b, Reach E a b → a ∈ R → b ∈ R := by
    intro a b hab
    induction hab with
    | one hab => exact fun ha => by simpa using h.clos _ ha _ hab
    | step hab _ ih => exact fun ha => ih (by simpa using h.clos _ ha _ hab)
  cases hy with
  | one hy => simpa using h.first _ hy
  | step hy hyz => exact hc _ _ hyz (by simpa using h.first _ hy)
/-- what Dependencies returns -/
def IsDeps (E : List Ed) (x : I3) (l : List I3) : Prop := SortedK l ∧ ∀ y, y ∈ l ↔ Reach E x y
theorem IsDeps.uniq {E F : List Ed} {x : I3} {l m : List I3} (h : IsDeps E x l) (k : IsDeps F x m) (he : ∀ y, Reach E x y ↔ Reach F x y) : l = m :=
  h.1.ext k.1 fun y => by rw [h.2, k.2, he]
theorem IsDeps.len {E : List Ed} {x : I3} {l : List I3} (h : IsDeps E x l) : l.length ≤ (ks E).length := nodup_le h.1.nodup fun y hy => reach_ks ((h.2 y).1 hy)
end Go.Proofs.Ytenjjiilcdgimaa
