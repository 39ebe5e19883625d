/- Derivations: plain. Steps (set, rule) of an element e. -/
import Derived.Test.YtaciceaipmclgaaFixI
namespace Go.Proofs.Ytaciceaipmclgaa
open Go.RowKit
set_option linter.unusedVariables false
abbrev PS := List (Nat × Nat)
def dPS : Nat × Nat := (0, 0)
/-- the sets of which the steps tell -/
def dOf (Q : PS) (i : Nat) : Bool := Q.any fun t => t.1 == i
theorem dOf_nil (i : Nat) : dOf [] i = false := rfl
theorem dOf_append (P Q : PS) (i : Nat) : dOf (P ++ Q) i = (dOf P i || dOf Q i) := List.any_append
theorem dOf_one (s : Nat × Nat) (i : Nat) : dOf [s] i = (s.1 == i) := by simp [dOf]
theorem dOf_iff (Q : PS) (i : Nat) : dOf Q i = true ↔ ∃ t ∈ Q, t.1 = i := by simp [dOf]
theorem dOf_reverse (Q : PS) (i : Nat) : dOf Q.reverse i = dOf Q i := by simp [dOf]
def ruleAt (R : Rules) (s : Nat × Nat) : Rule := (R.getD s.1 []).getD s.2 (0, [])
/-- whether a rule applies -/
def ap (e : Nat) (D : Nat → Bool) (r : Rule) : Bool := r.1.toNat.testBit e && !(r.2.any fun j => !D j.toNat)
theorem ap_iff (e : Nat) (D : Nat → Bool) (r : Rule) : ap e D r = true ↔ r.1.toNat.testBit e = true ∧ ∀ j ∈ r.2, D j.toNat = true := by
  unfold ap
  rw [Bool.and_eq_true]
  constructor
  · rintro ⟨h1, h2⟩
    refine ⟨h1, fun j hj => ?_⟩
    cases hd : D j.toNat
    · have : (r.2.any fun j => !D j.toNat) = true := List.any_eq_true.2 ⟨j, hj, by rw [hd]; rfl⟩
      rw [this] at h2
      cases h2
    · rfl
  · rintro ⟨h1, h2⟩
    refine ⟨h1, ?_⟩
    have : (r.2.any fun j => !D j.toNat) = false := List.any_eq_false.2 fun j hj => by rw [h2 j hj]; decide
    rw [this]; rfl
/-- a proof whose steps are valid -/
def ValidP (R : Rules) (e : Nat) (Q : PS) : Prop := ∀ p, p < Q.length → (Q.getD p dPS).1 < R.length ∧ (Q.getD p dPS).2 < (R.getD (Q.getD p dPS).1 []).length ∧ ap e (dOf (Q.take p)) (ruleAt R (Q.getD p dPS)) = true
theorem ValidP.nil (R : Rules) (e : Nat) : ValidP R e [] := fun p h => absurd h (by simp)
theorem ValidP.add {R : Rules} {e : Nat} {Q : PS} (h : ValidP R e Q) {i k : Nat} (hi : i < R.length) (hk : k < (R.getD i []).length) (ha : ap e (dOf Q) ((R.getD i []).getD k (0, [])) = true) : ValidP R e (Q ++ [(i, k)]) := fun p hp => by
  rw [List.length_append, List.length_singleton] at hp
  by_cases hpl : p < Q.length
  · have h1 : (Q ++ [(i, k)]).getD p dPS = Q.getD p dPS := by rw [List.getD_eq_getElem?_getD, List.getElem?_append_left hpl, ← List.getD_eq_getElem?_getD]
    rw [h1, List.take_append_of_le_length (by omega)]
    exact h p hpl
  · obtain rfl : p = Q.length := by omega
    have h1 : (Q ++ [(i, k)]).getD Q.length dPS = (i, k) := by simp [List.getD_eq_getElem?_getD]
    rw [h1, List.take_append_of_le_length (Nat.le_refl _), List.take_length]
    exact ⟨hi, hk, ha⟩
theorem dOf_take {Q : PS} {p i : Nat} (h : dOf (Q.take p) i = true) : ∃ t, t < p ∧ t < Q.length ∧ (Q.getD t dPS).1 = i := by
  obtain ⟨s, hs, rfl⟩ := (dOf_iff _ _).1 h
  obtain ⟨t, ht, he⟩ := List.getElem_of_mem hs
  rw [List.length_take] at ht
  refine ⟨t, by omega, by omega, ?_⟩
  rw [List.getElem_take] at he
  rw [← he, List.getD_eq_getElem?_getD, List.getElem?_eq_getElem (by omega)]
  rfl
/-! ### soundness -/
theorem dbit_fold (S : List Nat) (e : Nat) (l : List Int) : ∀ a : Nat, a.testBit e = true → (∀ j ∈ l, (S.getD j.toNat 0).testBit e = true) → (l.foldl (fun e j => e &&& S.getD j.toNat 0) a).testBit e = true := by
  induction l with
  | nil => intro a h _; exact h
  | cons j l ih => intro a h hl; exact ih _ (by rw [Nat.testBit_and, h, hl j (by simp)]; rfl) fun x hx => hl x (by simp [hx])
theorem dbit_inv (S : List Nat) (e : Nat) (l : List Int) : ∀ a : Nat, (l.foldl (fun e j => e &&& S.getD j.toNat 0) a).testBit e = true → a.testBit e = true ∧ ∀ j ∈ l, (S.getD j.toNat 0).testBit e = true := by
  induction l with
  | nil => intro a h; exact ⟨h, fun j hj => by cases hj⟩
  | cons j l ih =>
    intro a h
    obtain ⟨h1, h2⟩ := ih _ h
    rw [Nat.testBit_and, Bool.and_eq_true] at h1
    refine ⟨h1.1, fun x hx => ?_⟩
    rcases List.mem_cons.1 hx with rfl | hx
    · exact h1.2
    · exact h2 x hx
theorem ValidP.sound {R : Rules} {e : Nat} {Q : PS} (h : ValidP R e Q) {S : List Nat} (hS : sol R S) : ∀ n p, p ≤ n → p < Q.length → (S.getD (Q.getD p dPS).1 0).testBit e = true := by
  intro n
  induction n with
  | zero =>
    intro p hp hl
    obtain ⟨h1, h2, h3⟩ := h p hl
    obtain ⟨h4, h5⟩ := (ap_iff _ _ _).1 h3
    refine hS _ h1 _ (getD_mem h2 (0, [])) e (dbit_fold S e _ _ h4 fun j hj => ?_)
    obtain ⟨t, ht, _⟩ := dOf_take (h5 j hj)
    omega
  | succ n ih =>
    intro p hp hl
    obtain ⟨h1, h2, h3⟩ := h p hl
    obtain ⟨h4, h5⟩ := (ap_iff _ _ _).1 h3
    refine hS _ h1 _ (getD_mem h2 (0, [])) e (dbit_fold S e _ _ h4 fun j hj => ?_)
    obtain ⟨t, ht, htl, he⟩ := dOf_take (h5 j hj)
    have := ih t (by omega) htl
    rw [he] at this
    exact this
theorem ValidP.bit {R : Rules} {e : Nat} {Q : PS} (h : ValidP R e Q) {S : List Nat} (hS : sol R S) {i : Nat} (hi : dOf Q i = true) : (S.getD i 0).testBit e = true := by
  obtain ⟨t, _, ht, rfl⟩ := dOf_take (p := Q.length) (by rw [List.take_length]; exact hi)
  exact h.sound hS t t (Nat.le_refl _) ht
/-! ### completeness -/
/-- no rule that applies is left -/
def DoneP (R : Rules) (e : Nat) (Q : PS) : Prop := ∀ i, i < R.length → dOf Q i = true ∨ ∀ r ∈ R.getD i [], ap e (dOf Q) r = false
theorem univ_bit (k : Nat) : univ.testBit k = decide (k < 20) := by
  have : univ = 2 ^ 20 - 1 := by decide
  rw [this, Nat.testBit_two_pow_sub_one]
theorem bit_lt {a k : Nat} (h : a ≤ univ) (hk : a.testBit k = true) : k < 20 := by
  by_cases h20 : k < 20
  · exact h20
  · rw [Nat.testBit_lt_two_pow (Nat.lt_of_lt_of_le (lt_univ.1 h) (Nat.pow_le_pow_right (by decide) (by omega)))] at hk
    cases hk
theorem DoneP.complete {R : Rules} {e : Nat} {Q : PS} (h : DoneP R e Q) (hok : Okr R) (he : e < 20) {S : List Nat} (hS : Lst R S) {i : Nat} (hi : i < R.length) (hb : (S.getD i 0).testBit e = true) : dOf Q i = true := by
  let T : List Nat := (List.range R.length).map fun i => if dOf Q i then univ else univ ^^^ 2 ^ e
  have hT : ∀ j, j < R.length → T.getD j 0 = if dOf Q j then univ else univ ^^^ 2 ^ e := fun j hj => by
    show ((List.range R.length).map _).getD j 0 = _
    rw [List.getD_eq_getElem?_getD, List.getElem?_map, List.getElem?_range hj]
    rfl
  have hTe : ∀ j, j < R.length → (T.getD j 0).testBit e = true → dOf Q j = true := fun j hj hbj => by
    rw [hT j hj] at hbj
    by_cases hd : dOf Q j = true
    · exact hd
    · rw [if_neg hd, Nat.testBit_xor, univ_bit, Nat.testBit_two_pow_self, decide_eq_true he] at hbj
      cases hbj
  have hsol : sol R T := fun j hj r hr k hk => by
    have hkm := der_mask T r k hk
    have hmem : R.getD j [] ∈ R := getD_mem hj []
    have hk20 : k < 20 := bit_lt (a := r.1.toNat) (by have := hok.mask _ hmem r hr; unfold univ; omega) hkm
    rw [hT j hj]
    by_cases hd : dOf Q j = true
    · rw [if_pos hd, univ_bit]; exact decide_eq_true hk20
    · rw [if_neg hd, Nat.testBit_xor, univ_bit, decide_eq_true hk20]
      by_cases hke : k = e
      · exfalso
        subst hke
        obtain ⟨h1, h2⟩ := dbit_inv T k _ _ hk
        rcases h j hj with h3 | h3
        · exact hd h3
        · have h4 := h3 r hr
          rw [(ap_iff _ _ _).2 ⟨h1, fun x hx => hTe _ (by have := hok.idx _ hmem r hr x hx; omega) (h2 x hx)⟩] at h4
          cases h4
      · rw [Nat.testBit_two_pow_of_ne (Ne.symm hke)]; rfl
  exact hTe i hi (hS.least T hsol i e hb)
/-! ### the steps that derivations finds -/
structure DInv (R : Rules) (e : Nat) (St : PS) : Prop where
  nd : (St.map (·.1)).Nodup
  ok : ValidP R e St
theorem DInv.nil (R : Rules) (e : Nat) : DInv R e [] := ⟨List.nodup_nil, ValidP.nil R e⟩
theorem DInv.add {R : Rules} {e : Nat} {St : PS} (h : DInv R e St) {i k : Nat} (hi : i < R.length) (hd : dOf St i = false) (hk : k < (R.getD i []).length) (ha : ap e (dOf St) ((R.getD i []).getD k (0, [])) = true) : DInv R e (St ++ [(i, k)]) :=
  ⟨by
    rw [List.map_append, List.nodup_append]
    refine ⟨h.nd, by simp, fun a ha b hb => ?_⟩
    obtain ⟨t, ht, rfl⟩ := List.mem_map.1 ha
    simp only [List.map_cons, List.map_nil, List.mem_singleton] at hb
    rw [hb]
    intro he
    rw [(dOf_iff St i).2 ⟨t, ht, he⟩] at hd
    exact Bool.noConfusion hd, h.ok.add hi hk ha⟩
theorem ValidP.lt {R : Rules} {e : Nat} {Q : PS} (h : ValidP R e Q) : ∀ s ∈ Q, s.1 < R.length ∧ s.2 < (R.getD s.1 []).length := fun s hs => by
  obtain ⟨t, ht, rfl⟩ := List.getElem_of_mem hs
  have := h t ht
  rw [List.getD_eq_getElem?_getD, List.getElem?_eq_getElem ht] at this
  exact ⟨this.1, this.2.1⟩
theorem DInv.len {R : Rules} {e : Nat} {St : PS} (h : DInv R e St) : St.length ≤ R.length := by
  have := nodup_len R.length h.nd fun x hx => by obtain ⟨t, ht, rfl⟩ := List.mem_map.1 hx; exact (h.ok.lt t ht).1
  rwa [List.length_map] at this
/-! ### the way back -/
structure BW (R : Rules) (e : Nat) (St : PS) (en : Nat) (nd : Nat → Bool) (j : Nat) (acc : PS) : Prop where
  mem : ∀ s ∈ acc, s ∈ St
  dep : ∀ p, p < acc.length → ∀ d ∈ (ruleAt R (acc.getD p dPS)).2, dOf (acc.drop (p + 1)) d.toNat = true ∨ (nd d.toNat = true ∧ dOf (St.take j) d.toNat = true)
  fst : (j = en + 1 ∧ acc = [] ∧ nd (St.getD en dPS).1 = true) ∨ (0 < acc.length ∧ acc.getD 0 dPS = St.getD en dPS)
  len : acc.length + j ≤ en + 1
theorem BW.start {R : Rules} {e : Nat} {St : PS} {en : Nat} {nd : Nat → Bool} (h : nd (St.getD en dPS).1 = true) : BW R e St en nd (en + 1) [] :=
  ⟨fun s h => absurd h (by simp), fun p h => absurd h (by simp), .inl ⟨rfl, rfl, h⟩, by simp⟩
theorem take_succ_dOf {St : PS} {j i : Nat} (hj : j < St.length) : dOf (St.take (j + 1)) i = (dOf (St.take j) i || ((St.getD j dPS).1 == i)) := by
  rw [take_snoc St j hj dPS, dOf_append, dOf_one]
theorem BW.skip {R : Rules} {e : Nat} {St : PS} {en : Nat} {nd : Nat → Bool} {j : Nat} {acc : PS} (h : BW R e St en nd (j + 1) acc) (hj : j < St.length) (hn : nd (St.getD j dPS).1 = false) : BW R e St en nd j acc := by
  refine ⟨h.mem, fun p hp d hd => ?_, ?_, by have := h.len; omega⟩
  · rcases h.dep p hp d hd with h1 | ⟨h1, h2⟩
    · exact .inl h1
    · rw [take_succ_dOf hj, Bool.or_eq_true, beq_iff_eq] at h2
      rcases h2 with h2 | h2
      · exact .inr ⟨h1, h2⟩
      · rw [h2, h1] at hn; cases hn
  · rcases h.fst with ⟨h1, h2, h3⟩ | h1
    · obtain rfl : j = en := by omega
      rw [h3] at hn; cases hn
    · exact .inr h1
theorem BW.take {R : Rules} {e : Nat} {St : PS} {en : Nat} {nd nd' : Nat → Bool} {j : Nat} {acc : PS} (h : BW R e St en nd (j + 1) acc) (hj : j < St.length) (hok : ValidP R e St)
    (hnd : ∀ d, nd' d = (nd d || (ruleAt R (St.getD j dPS)).2.any fun x => x.toNat == d)) : BW R e St en nd' j (acc ++ [St.getD j dPS]) := by
  refine ⟨fun s hs => ?_, fun p hp d hd => ?_, ?_, by have := h.len; rw [List.length_append, List.length_singleton]; omega⟩
  · rcases List.mem_append.1 hs with hs | hs
    · exact h.mem s hs
    · rw [List.mem_singleton] at hs; subst hs; exact getD_mem hj dPS
  · rw [List.length_append, List.length_singleton] at hp
    by_cases hpl : p < acc.length
    · have h1 : (acc ++ [St.getD j dPS]).getD p dPS = acc.getD p dPS := by rw [List.getD_eq_getElem?_getD, List.getElem?_append_left hpl, ← List.getD_eq_getElem?_getD]
      rw [h1] at hd
      rw [List.drop_append_of_le_length (by omega), dOf_append, dOf_one, hnd]
      rcases h.dep p hpl d hd with h2 | ⟨h2, h3⟩
      · exact .inl (by rw [h2]; rfl)
      · rw [take_succ_dOf hj, Bool.or_eq_true] at h3
        rcases h3 with h3 | h3
        · exact .inr ⟨by rw [h2]; rfl, h3⟩
        · exact .inl (by rw [h3, Bool.or_true])
    · obtain rfl : p = acc.length := by omega
      have h1 : (acc ++ [St.getD j dPS]).getD acc.length dPS = St.getD j dPS := by simp [List.getD_eq_getElem?_getD]
      rw [h1] at hd
      refine .inr ⟨?_, ((ap_iff _ _ _).1 (hok j hj).2.2).2 d hd⟩
      rw [hnd, List.any_eq_true.2 ⟨d, hd, by simp⟩, Bool.or_true]
  · rcases h.fst with ⟨h1, h2, h3⟩ | ⟨h1, h2⟩
    · obtain rfl : j = en := by omega
      subst h2
      exact .inr ⟨by simp, by simp⟩
    · refine .inr ⟨by simp, ?_⟩
      rw [List.getD_eq_getElem?_getD, List.getElem?_append_left h1, ← List.getD_eq_getElem?_getD, h2]
theorem getD_reverse (Q : PS) (p : Nat) (hp : p < Q.length) : Q.reverse.getD p dPS = Q.getD (Q.length - 1 - p) dPS := by
  rw [List.getD_eq_getElem?_getD, List.getElem?_reverse hp, ← List.getD_eq_getElem?_getD]
theorem BW.fin {R : Rules} {e : Nat} {St : PS} {en : Nat} {nd : Nat → Bool} {acc : PS} (h : BW R e St en nd 0 acc) (hok : ValidP R e St) :
    ValidP R e acc.reverse ∧ 0 < acc.length ∧ (acc.reverse.getD (acc.length - 1) dPS) = St.getD en dPS := by
  have hne : 0 < acc.length ∧ acc.getD 0 dPS = St.getD en dPS := by
    rcases h.fst with ⟨h1, _⟩ | h1
    · omega
    · exact h1
  refine ⟨fun p hp => ?_, hne.1, ?_⟩
  · rw [List.length_reverse] at hp
    rw [getD_reverse _ _ hp]
    have hq : acc.length - 1 - p < acc.length := by omega
    have hm := h.mem _ (getD_mem hq dPS)
    obtain ⟨t, ht, he⟩ := List.getElem_of_mem hm
    have hv := hok t ht
    rw [List.getD_eq_getElem?_getD, List.getElem?_eq_getElem ht, Option.getD_some, he] at hv
    refine ⟨hv.1, hv.2.1, (ap_iff _ _ _).2 ⟨((ap_iff _ _ _).1 hv.2.2).1, fun d hd => ?_⟩⟩
    rcases h.dep _ hq d hd with h1 | ⟨_, h1⟩
    · rw [List.take_reverse, dOf_reverse, show acc.length - p = acc.length - 1 - p + 1 by omega]
      exact h1
    · rw [List.take_zero, dOf_nil] at h1; cases h1
  · rw [getD_reverse _ _ (by omega), show acc.length - 1 - (acc.length - 1) = 0 by omega]
    exact hne.2
/-- the place of the first of which q holds -/
def FPost {α : Type} (q : α → Bool) (l : List α) (d : α) (z : Int) : Prop :=
  (∃ k : Nat, k < l.length ∧ z = (k : Int) ∧ q (l.getD k d) = true) ∨ (z = -1 ∧ ∀ x ∈ l, q x = false)
theorem FPost.any {α : Type} {q : α → Bool} {l : List α} {d : α} {z : Int} (h : FPost q l d z) : decide (0 ≤ z) = l.any q := by
  rcases h with ⟨k, hk, rfl, hq⟩ | ⟨rfl, hn⟩
  · rw [List.any_eq_true.2 ⟨_, getD_mem hk d, hq⟩]; exact decide_eq_true (by omega)
  · rw [List.any_eq_false.2 fun x hx => by rw [hn x hx]; decide]; rfl
/-- the first j of All are needed, too -/
def ndAll (nd : Nat → Bool) (l : List Int) (m d : Nat) : Bool := nd d || (l.take m).any fun x => x.toNat == d
theorem ndAll_zero (nd : Nat → Bool) (l : List Int) (d : Nat) : ndAll nd l 0 d = nd d := by simp [ndAll]
theorem ndAll_succ (nd : Nat → Bool) (l : List Int) (m d : Nat) (hm : m < l.length) : ndAll nd l (m + 1) d = if d = (l.getD m 0).toNat then true else ndAll nd l m d := by
  unfold ndAll
  rw [take_snoc l m hm 0, List.any_append]
  by_cases h : d = (l.getD m 0).toNat
  · rw [if_pos h]; subst h; simp
  · rw [if_neg h]
    have : ([l.getD m 0].any fun x => x.toNat == d) = false := List.any_eq_false.2 fun x hx => by
      rw [List.mem_singleton] at hx
      subst hx
      rw [beq_iff_eq]
      exact fun he => h he.symm
    rw [this, Bool.or_false]
/-- more rules at the ends of the lists: the proof is valid still -/
theorem ValidP.more {R R' : Rules} {e : Nat} {Q : PS} (h : ValidP R e Q) (hl : R'.length = R.length) (r : Rule) (hR : ∀ i, i < R.length → R'.getD i [] = R.getD i [] ++ [r]) : ValidP R' e Q := fun p hp => by
  obtain ⟨h1, h2, h3⟩ := h p hp
  have h4 := hR _ h1
  refine ⟨by omega, by rw [h4, List.length_append]; omega, ?_⟩
  have : ruleAt R' (Q.getD p dPS) = ruleAt R (Q.getD p dPS) := by
    unfold ruleAt
    rw [h4, List.getD_eq_getElem?_getD, List.getElem?_append_left h2, ← List.getD_eq_getElem?_getD]
  rw [this]
  exact h3
end Go.Proofs.Ytaciceaipmclgaa
