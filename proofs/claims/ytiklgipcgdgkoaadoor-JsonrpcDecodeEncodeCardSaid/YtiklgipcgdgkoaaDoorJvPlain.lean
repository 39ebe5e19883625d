/- JSON values, plain: Validate, Equal, Lookup, the reversed value. -/
import Derived.Test.YtiklgipcgdgkoaaDoorBase
namespace Go.Proofs.YtiklgipcgdgkoaaDoor.Jv
set_option linter.unusedVariables false
set_option linter.unusedSimpArgs false
/-- a JSON value -/
inductive J where
  | mk (kind num : Int) (text : ByteArray) (names : List ByteArray) (elems : List J) : J
def J.kind : J → Int | .mk k _ _ _ _ => k
def J.num : J → Int | .mk _ n _ _ _ => n
def J.text : J → ByteArray | .mk _ _ t _ _ => t
def J.names : J → List ByteArray | .mk _ _ _ ns _ => ns
def J.elems : J → List J | .mk _ _ _ _ es => es
theorem J.ind {P : J → Prop} (h : ∀ k n t ns es, (∀ e ∈ es, P e) → P (.mk k n t ns es)) : ∀ j, P j
  | .mk k n t ns es => h k n t ns es fun e he => J.ind h e
termination_by j => SizeOf.sizeOf j
decreasing_by
  have := List.sizeOf_lt_of_mem he
  simp only [J.mk.sizeOf_spec]
  omega
instance : Inhabited J := ⟨.mk 0 0 ⟨#[]⟩ [] []⟩
def J.zero : J := .mk 0 0 ⟨#[]⟩ [] []
theorem nodup_rev {l : List ByteArray} (h : l.Nodup) : l.reverse.Nodup := by
  unfold List.Nodup
  rw [List.pairwise_reverse]
  exact h.imp fun h => Ne.symm h
theorem nodup_inj {l : List ByteArray} (h : l.Nodup) {i j : Nat} (hi : i < l.length) (hj : j < l.length) (e : l[i] = l[j]) : i = j := by
  unfold List.Nodup at h
  rw [List.pairwise_iff_getElem] at h
  rcases Nat.lt_trichotomy i j with hlt | rfl | hlt
  · exact absurd e (h i j hi hj hlt)
  · rfl
  · exact absurd e.symm (h j i hj hi hlt)
mutual
def J.nodes : J → Nat | .mk _ _ _ _ es => 1 + nodesL es
def nodesL : List J → Nat | [] => 0 | e :: es => e.nodes + nodesL es
end
mutual
def J.depth : J → Nat | .mk _ _ _ _ es => 1 + depthL es
def depthL : List J → Nat | [] => 0 | e :: es => max e.depth (depthL es)
end
/-- one value is well-formed; 'u': a text is valid UTF-8 -/
def wf (u : ByteArray → Bool) (k n : Int) (t : ByteArray) (ns : List ByteArray) (len : Nat) : Bool :=
  decide ((if k = 2 then -9007199254740991 else 0) ≤ n ∧ n ≤ (if k = 1 then 1 else if k = 2 then 9007199254740991 else 0)) && decide (t ≠ ⟨#[]⟩ → k = 3) && decide (0 < len → k = 4 ∨ k = 5) && decide (k = 5 → ns.length = len ∧ ns.Nodup) && decide (k ≠ 5 → ns = []) && u t && ns.all u
mutual
def J.vd (u : ByteArray → Bool) : J → Int
  | .mk k n t ns es => if k < 0 ∨ 6 ≤ k then 7 else if wf u k n t ns es.length = false then 3 else vdL u es
def vdL (u : ByteArray → Bool) : List J → Int
  | [] => 0
  | e :: es => if e.vd u ≠ 0 then e.vd u else vdL u es
end
def J.valid (u : ByteArray → Bool) (j : J) : Int := if j.nodes ≤ 400 ∧ j.depth ≤ 20 then j.vd u else 2
/-- the element of b that belongs to element i of a value with this kind and these names -/
def cp (k : Int) (ns : List ByteArray) (b : J) (i : Nat) : Option J :=
  if k ≠ 5 then b.elems[i]? else
  match ns[i]? with
  | none => none
  | some s => b.elems[b.names.findIdx (· = s)]?
mutual
def J.eq : J → J → Bool
  | .mk k n t ns es, b => decide (k = b.kind ∧ n = b.num ∧ t = b.text ∧ es.length = b.elems.length ∧ ns.length = b.names.length) && eqL k ns b 0 es
def eqL (k : Int) (ns : List ByteArray) (b : J) : Nat → List J → Bool
  | _, [] => true
  | i, e :: es => (match cp k ns b i with | none => false | some b' => e.eq b') && eqL k ns b (i + 1) es
end
mutual
def J.rev : J → J
  | .mk k n t ns es => .mk k n t (if k = 5 then ns.reverse else ns) (if k = 5 then (revL es).reverse else revL es)
def revL : List J → List J
  | [] => []
  | e :: es => e.rev :: revL es
end
theorem revL_map (es : List J) : revL es = es.map J.rev := by
  induction es with
  | nil => rfl
  | cons e es ih => rw [revL, ih]; rfl
theorem nodesL_app (a b : List J) : nodesL (a ++ b) = nodesL a + nodesL b := by
  induction a with
  | nil => simp [nodesL]
  | cons e a ih => rw [List.cons_append, nodesL, nodesL, ih]; omega
theorem nodesL_reverse (a : List J) : nodesL a.reverse = nodesL a := by
  induction a with
  | nil => rfl
  | cons e a ih => rw [List.reverse_cons, nodesL_app, ih, nodesL, nodesL, nodesL]; omega
theorem depthL_app (a b : List J) : depthL (a ++ b) = max (depthL a) (depthL b) := by
  induction a with
  | nil => simp [depthL]
  | cons e a ih => rw [List.cons_append, depthL, depthL, ih]; omega
theorem depthL_reverse (a : List J) : depthL a.reverse = depthL a := by
  induction a with
  | nil => rfl
  | cons e a ih => rw [List.reverse_cons, depthL_app, ih, depthL, depthL, depthL]; omega
theorem nodesL_mem {es : List J} {e : J} (h : e ∈ es) : e.nodes ≤ nodesL es := by
  induction es with
  | nil => cases h
  | cons a es ih =>
    rw [nodesL]
    rcases List.mem_cons.1 h with rfl | h
    · omega
    · have := ih h; omega
theorem depthL_mem {es : List J} {e : J} (h : e ∈ es) : e.depth ≤ depthL es := by
  induction es with
  | nil => cases h
  | cons a es ih =>
    rw [depthL]
    rcases List.mem_cons.1 h with rfl | h
    · omega
    · have := ih h; omega
theorem nodesL_rev {es : List J} (h : ∀ e ∈ es, e.rev.nodes = e.nodes) : nodesL (revL es) = nodesL es := by
  induction es with
  | nil => rfl
  | cons e es ih => rw [revL, nodesL, nodesL, h e (by simp), ih fun x hx => h x (by simp [hx])]
theorem depthL_rev {es : List J} (h : ∀ e ∈ es, e.rev.depth = e.depth) : depthL (revL es) = depthL es := by
  induction es with
  | nil => rfl
  | cons e es ih => rw [revL, depthL, depthL, h e (by simp), ih fun x hx => h x (by simp [hx])]
theorem rev_nodes : ∀ j : J, j.rev.nodes = j.nodes := by
  refine J.ind fun k n t ns es ih => ?_
  rw [J.rev, J.nodes, J.nodes]
  split
  · rw [nodesL_reverse, nodesL_rev ih]
  · rw [nodesL_rev ih]
theorem rev_depth : ∀ j : J, j.rev.depth = j.depth := by
  refine J.ind fun k n t ns es ih => ?_
  rw [J.rev, J.depth, J.depth]
  split
  · rw [depthL_reverse, depthL_rev ih]
  · rw [depthL_rev ih]
theorem vdL_zero {u : ByteArray → Bool} {es : List J} : vdL u es = 0 ↔ ∀ e ∈ es, e.vd u = 0 := by
  induction es with
  | nil => simp [vdL]
  | cons e es ih =>
    rw [vdL]
    by_cases h : e.vd u = 0
    · rw [if_neg (by simp [h]), ih]
      simp [h]
    · rw [if_pos h]
      simp [h]
theorem vd_zero {u : ByteArray → Bool} {k n : Int} {t : ByteArray} {ns : List ByteArray} {es : List J} : (J.mk k n t ns es).vd u = 0 ↔ (0 ≤ k ∧ k < 6) ∧ wf u k n t ns es.length = true ∧ ∀ e ∈ es, e.vd u = 0 := by
  rw [J.vd]
  by_cases h : k < 0 ∨ 6 ≤ k
  · rw [if_pos h]
    constructor
    · intro h'; cases h'
    · rintro ⟨h', _⟩; omega
  · rw [if_neg h]
    by_cases h2 : wf u k n t ns es.length = false
    · rw [if_pos h2, h2]
      constructor
      · intro h'; cases h'
      · rintro ⟨_, h', _⟩; cases h'
    · rw [if_neg h2, vdL_zero]
      have : wf u k n t ns es.length = true := by simpa using h2
      rw [this]
      constructor
      · exact fun h' => ⟨by omega, rfl, h'⟩
      · exact fun h' => h'.2.2
theorem revL_len (es : List J) : (revL es).length = es.length := by rw [revL_map, List.length_map]
theorem wf_rev {u : ByteArray → Bool} {k n : Int} {t : ByteArray} {ns : List ByteArray} {len : Nat} (h : wf u k n t ns len = true) : wf u k n t ns.reverse len = true := by
  unfold wf at h ⊢
  simp only [Bool.and_eq_true, decide_eq_true_eq, List.length_reverse, List.all_reverse] at h ⊢
  obtain ⟨⟨⟨⟨⟨⟨h1, h2⟩, h3⟩, h4⟩, h5⟩, h6⟩, h7⟩ := h
  exact ⟨⟨⟨⟨⟨⟨h1, h2⟩, h3⟩, fun hk => ⟨(h4 hk).1, nodup_rev (h4 hk).2⟩⟩, fun hk => by rw [h5 hk]; rfl⟩, h6⟩, h7⟩
theorem rev_vd {u : ByteArray → Bool} : ∀ j : J, j.vd u = 0 → j.rev.vd u = 0 := by
  refine J.ind fun k n t ns es ih h => ?_
  obtain ⟨h1, h2, h3⟩ := vd_zero.1 h
  rw [J.rev]
  split
  · refine vd_zero.2 ⟨h1, ?_, fun e he => ?_⟩
    · rw [List.length_reverse, revL_len]
      exact wf_rev h2
    · rw [List.mem_reverse, revL_map] at he
      obtain ⟨e', he', rfl⟩ := List.mem_map.1 he
      exact ih e' he' (h3 e' he')
  · refine vd_zero.2 ⟨h1, by rw [revL_len]; exact h2, fun e he => ?_⟩
    rw [revL_map] at he
    obtain ⟨e', he', rfl⟩ := List.mem_map.1 he
    exact ih e' he' (h3 e' he')
theorem rev_valid {u : ByteArray → Bool} {j : J} (h : j.valid u = 0) : j.rev.valid u = 0 := by
  unfold J.valid at h ⊢
  rw [rev_nodes, rev_depth]
  split at h
  · rename_i hl
    rw [if_pos hl]
    exact rev_vd j h
  · cases h
theorem valid_parts {u : ByteArray → Bool} {j : J} (h : j.valid u = 0) : j.nodes ≤ 400 ∧ j.depth ≤ 20 ∧ j.vd u = 0 := by
  unfold J.valid at h
  split at h
  · rename_i hl; exact ⟨hl.1, hl.2, h⟩
  · cases h
theorem elem_valid {u : ByteArray → Bool} {j e : J} (h : j.valid u = 0) (he : e ∈ j.elems) : e.valid u = 0 := by
  obtain ⟨h1, h2, h3⟩ := valid_parts h
  obtain ⟨k, n, t, ns, es⟩ := j
  have he' : e ∈ es := he
  rw [J.nodes] at h1
  rw [J.depth] at h2
  have a := nodesL_mem he'
  have b := depthL_mem he'
  unfold J.valid
  rw [if_pos ⟨by omega, by omega⟩]
  exact (vd_zero.1 h3).2.2 e he'
theorem zero_valid {u : ByteArray → Bool} (hu : u ⟨#[]⟩ = true) : J.zero.valid u = 0 := by
  have hn : J.zero.nodes = 1 := rfl
  have hd : J.zero.depth = 1 := rfl
  unfold J.valid
  rw [if_pos ⟨by omega, by omega⟩]
  refine vd_zero.2 ⟨by omega, ?_, fun e he => by cases he⟩
  unfold wf
  simp [hu]
/-! ### equality -/
theorem eqL_all {k : Int} {ns : List ByteArray} {b : J} {es : List J} {i : Nat} (h : ∀ j (hj : j < es.length), ∃ b', cp k ns b (i + j) = some b' ∧ es[j].eq b' = true) : eqL k ns b i es = true := by
  induction es generalizing i with
  | nil => rfl
  | cons e es ih =>
    obtain ⟨b', h1, h2⟩ := h 0 (by simp)
    rw [eqL, show cp k ns b i = some b' from h1]
    simp only [Bool.and_eq_true]
    refine ⟨h2, ih fun j hj => ?_⟩
    obtain ⟨b'', h3, h4⟩ := h (j + 1) (by simpa using hj)
    exact ⟨b'', by rw [show i + 1 + j = i + (j + 1) by omega]; exact h3, h4⟩
theorem findIdx_nodup {ns : List ByteArray} (hn : ns.Nodup) {i : Nat} (hi : i < ns.length) : ns.findIdx (· = ns[i]) = i := by
  have h1 : ns.findIdx (· = ns[i]) < ns.length := List.findIdx_lt_length_of_exists ⟨ns[i], List.getElem_mem _, by simp⟩
  have h2 := List.findIdx_getElem (w := h1)
  simp only [decide_eq_true_eq] at h2
  exact nodup_inj hn h1 hi h2
theorem wf_obj {u : ByteArray → Bool} {n : Int} {t : ByteArray} {ns : List ByteArray} {len : Nat} (h : wf u 5 n t ns len = true) : ns.length = len ∧ ns.Nodup := by
  unfold wf at h
  simp only [Bool.and_eq_true, decide_eq_true_eq] at h
  exact h.1.1.1.2 trivial
theorem eq_self {u : ByteArray → Bool} : ∀ j : J, j.vd u = 0 → j.eq j = true := by
  refine J.ind fun k n t ns es ih h => ?_
  obtain ⟨h1, h2, h3⟩ := vd_zero.1 h
  rw [J.eq]
  simp only [J.kind, J.num, J.text, J.elems, J.names, and_self, decide_true, Bool.true_and]
  refine eqL_all fun j hj => ⟨es[j], ?_, ih _ (List.getElem_mem _) (h3 _ (List.getElem_mem _))⟩
  unfold cp
  rw [Nat.zero_add]
  by_cases hk : k = 5
  · subst hk
    obtain ⟨a, b⟩ := wf_obj h2
    rw [if_neg (by simp), List.getElem?_eq_getElem (show j < ns.length by omega)]
    simp only [J.names, J.elems]
    rw [findIdx_nodup b, List.getElem?_eq_getElem hj]
  · rw [if_pos hk]
    simp only [J.elems]
    rw [List.getElem?_eq_getElem hj]
theorem eq_rev {u : ByteArray → Bool} : ∀ j : J, j.vd u = 0 → j.eq j.rev = true ∧ j.rev.eq j = true := by
  refine J.ind fun k n t ns es ih h => ?_
  obtain ⟨h1, h2, h3⟩ := vd_zero.1 h
  have ih' := fun e he => ih e he (h3 e he)
  rw [J.rev]
  by_cases hk : k = 5
  · subst hk
    obtain ⟨a, b⟩ := wf_obj h2
    rw [if_pos rfl, if_pos rfl]
    have hr : (revL es).reverse.length = es.length := by rw [List.length_reverse, revL_len]
    refine ⟨?_, ?_⟩
    · rw [J.eq]
      simp only [J.kind, J.num, J.text, J.elems, J.names, hr, List.length_reverse, and_self, decide_true, Bool.true_and]
      refine eqL_all fun j hj => ⟨es[j].rev, ?_, (ih' _ (List.getElem_mem _)).1⟩
      unfold cp
      rw [Nat.zero_add, if_neg (by simp), List.getElem?_eq_getElem (show j < ns.length by omega)]
      simp only [J.names, J.elems]
      have e1 : ns[j]'(by omega) = ns.reverse[ns.length - 1 - j]'(by simp; omega) := by
        rw [List.getElem_reverse]
        congr 1
        omega
      rw [e1, findIdx_nodup (nodup_rev b), List.getElem?_reverse (by rw [revL_len]; omega), revL_len, revL_map, List.getElem?_map, show es.length - 1 - (ns.length - 1 - j) = j by omega, List.getElem?_eq_getElem hj]
      rfl
    · rw [J.eq]
      simp only [J.kind, J.num, J.text, J.elems, J.names, hr, List.length_reverse, and_self, decide_true, Bool.true_and]
      refine eqL_all fun j hj => ?_
      have hj' : j < es.length := by rw [hr] at hj; exact hj
      refine ⟨es[es.length - 1 - j]'(by omega), ?_, ?_⟩
      · unfold cp
        rw [Nat.zero_add, if_neg (by simp), List.getElem?_reverse (by omega), List.getElem?_eq_getElem (show ns.length - 1 - j < ns.length by omega)]
        simp only [J.names, J.elems]
        rw [findIdx_nodup b, show ns.length - 1 - j = es.length - 1 - j by omega, List.getElem?_eq_getElem (by omega)]
      · have e1 : (revL es).reverse[j] = (es[es.length - 1 - j]'(by omega)).rev := by
          rw [List.getElem_reverse]
          simp only [revL_map, List.getElem_map, List.length_map]
        rw [e1]
        exact (ih' _ (List.getElem_mem _)).2
  · rw [if_neg hk, if_neg hk]
    have hr : (revL es).length = es.length := revL_len es
    refine ⟨?_, ?_⟩
    · rw [J.eq]
      simp only [J.kind, J.num, J.text, J.elems, J.names, hr, and_self, decide_true, Bool.true_and]
      refine eqL_all fun j hj => ⟨es[j].rev, ?_, (ih' _ (List.getElem_mem _)).1⟩
      unfold cp
      rw [Nat.zero_add, if_pos hk]
      simp only [J.elems]
      rw [revL_map, List.getElem?_map, List.getElem?_eq_getElem hj]
      rfl
    · rw [J.eq]
      simp only [J.kind, J.num, J.text, J.elems, J.names, hr, and_self, decide_true, Bool.true_and]
      refine eqL_all fun j hj => ?_
      have hj' : j < es.length := by rw [hr] at hj; exact hj
      refine ⟨es[j], ?_, ?_⟩
      · unfold cp
        rw [Nat.zero_add, if_pos hk]
        simp only [J.elems]
        rw [List.getElem?_eq_getElem hj']
      · have e1 : (revL es)[j] = es[j].rev := by simp only [revL_map, List.getElem_map]
        rw [e1]
        exact (ih' _ (List.getElem_mem _)).2
/-! ### the elements by name -/
def J.find (j : J) (s : ByteArray) : Option J := if j.kind ≠ 5 then none else j.elems[j.names.findIdx (· = s)]?
def J.equal (u : ByteArray → Bool) (a b : J) : Bool := decide (a.valid u = 0) && decide (b.valid u = 0) && a.eq b
theorem find_rev {u : ByteArray → Bool} {j : J} (h : j.vd u = 0) (s : ByteArray) : j.rev.find s = (j.find s).map J.rev := by
  obtain ⟨k, n, t, ns, es⟩ := j
  obtain ⟨h1, h2, h3⟩ := vd_zero.1 h
  rw [J.rev]
  by_cases hk : k = 5
  · subst hk
    obtain ⟨a, b⟩ := wf_obj h2
    rw [if_pos rfl, if_pos rfl]
    have f1 : ∀ ns' es', (J.mk 5 n t ns' es').find s = es'[ns'.findIdx (· = s)]? := fun ns' es' => by unfold J.find; rw [if_neg (by simp [J.kind])]; rfl
    rw [f1, f1]
    by_cases hs : s ∈ ns
    · obtain ⟨i, hi, rfl⟩ := List.getElem_of_mem hs
      have e1 : ns[i] = ns.reverse[ns.length - 1 - i]'(by simp; omega) := by
        rw [List.getElem_reverse]
        congr 1
        omega
      rw [findIdx_nodup b]
      conv => lhs; rw [e1, findIdx_nodup (nodup_rev b)]
      rw [List.getElem?_reverse (by rw [revL_len]; omega), revL_len, revL_map, List.getElem?_map, show es.length - 1 - (ns.length - 1 - i) = i by omega]
    · have e1 : ns.findIdx (· = s) = ns.length := List.findIdx_eq_length.2 fun x hx => decide_eq_false fun (e : x = s) => hs (e ▸ hx)
      have e2 : ns.reverse.findIdx (· = s) = ns.length := by
        have := List.findIdx_eq_length (xs := ns.reverse) (p := fun x => decide (x = s))
        rw [List.length_reverse] at this
        exact this.2 fun x hx => decide_eq_false fun (e : x = s) => hs (e ▸ List.mem_reverse.1 hx)
      rw [e1, e2, List.getElem?_eq_none (by rw [List.length_reverse, revL_len]; omega), List.getElem?_eq_none (by omega)]
      rfl
  · have f1 : ∀ ns' es', (J.mk k n t ns' es').find s = none := fun ns' es' => by unfold J.find; rw [if_pos (by simpa [J.kind] using hk)]
    rw [f1, f1]
    rfl
/-- the law -/
theorem order_law {u : ByteArray → Bool} (hu : u ⟨#[]⟩ = true) {j : J} (h : j.valid u = 0) (s : ByteArray) :
    j.equal u j = true ∧ j.equal u j.rev = true ∧ j.rev.equal u j = true ∧ ((j.find s).isSome = (j.rev.find s).isSome) ∧ ((j.find s).getD J.zero).equal u ((j.rev.find s).getD J.zero) = true := by
  obtain ⟨h1, h2, h3⟩ := valid_parts h
  have hr := rev_valid h
  have he := eq_rev (u := u) j h3
  have hs := eq_self (u := u) j h3
  refine ⟨by unfold J.equal; simp [h, hs], by unfold J.equal; simp [h, hr, he.1], by unfold J.equal; simp [h, hr, he.2], by rw [find_rev h3]; simp, ?_⟩
  rw [find_rev h3]
  cases hf : j.find s with
  | none =>
    have hz := zero_valid (u := u) hu
    simp only [Option.map_none, Option.getD_none]
    unfold J.equal
    rw [eq_self (u := u) J.zero (valid_parts hz).2.2]
    simp [hz]
  | some e =>
    have hm : e ∈ j.elems := by
      unfold J.find at hf
      split at hf
      · cases hf
      · exact List.mem_of_getElem? hf
    have hv := elem_valid h hm
    simp only [Option.map_some, Option.getD_some]
    unfold J.equal
    rw [(eq_rev (u := u) e (valid_parts hv).2.2).1]
    simp [hv, rev_valid hv]
end Go.Proofs.YtiklgipcgdgkoaaDoor.Jv
