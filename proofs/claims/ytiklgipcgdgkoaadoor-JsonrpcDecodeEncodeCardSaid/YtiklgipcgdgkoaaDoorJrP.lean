/- JsonrpcRoundTrip in plain words: what Decode finds in an encoded message, in whatever order its members stand. -/
import Derived.Test.YtiklgipcgdgkoaaDoorJrH
namespace Go.Proofs.YtiklgipcgdgkoaaDoor.Jv
set_option linter.unusedVariables false
set_option linter.unusedSimpArgs false
/-- an object with its members in the reverse order -/
def topRev (E : J) : J := .mk 5 0 ⟨#[]⟩ E.names.reverse E.elems.reverse
theorem topRev_valid {u : ByteArray → Bool} {ns : List ByteArray} {es : List J} (h : (J.mk 5 0 ⟨#[]⟩ ns es).valid u = 0) : (topRev (.mk 5 0 ⟨#[]⟩ ns es)).valid u = 0 := by
  obtain ⟨h1, h2, h3⟩ := valid_parts h
  obtain ⟨a1, a2, a3⟩ := vd_zero.1 h3
  have hn : (topRev (.mk 5 0 ⟨#[]⟩ ns es)).nodes = (J.mk 5 0 ⟨#[]⟩ ns es).nodes := by
    show (J.mk 5 0 ⟨#[]⟩ ns.reverse es.reverse).nodes = _
    rw [J.nodes, J.nodes, nodesL_reverse]
  have hd : (topRev (.mk 5 0 ⟨#[]⟩ ns es)).depth = (J.mk 5 0 ⟨#[]⟩ ns es).depth := by
    show (J.mk 5 0 ⟨#[]⟩ ns.reverse es.reverse).depth = _
    rw [J.depth, J.depth, depthL_reverse]
  unfold J.valid
  rw [if_pos ⟨by rw [hn]; exact h1, by rw [hd]; exact h2⟩]
  show (J.mk 5 0 ⟨#[]⟩ ns.reverse es.reverse).vd u = 0
  refine vd_zero.2 ⟨a1, ?_, fun e he => a3 e (List.mem_reverse.1 he)⟩
  rw [List.length_reverse]
  exact wf_rev a2
theorem topRev_eq {u : ByteArray → Bool} {ns : List ByteArray} {es : List J} (h : (J.mk 5 0 ⟨#[]⟩ ns es).vd u = 0) : (topRev (.mk 5 0 ⟨#[]⟩ ns es)).eq (.mk 5 0 ⟨#[]⟩ ns es) = true := by
  obtain ⟨a1, a2, a3⟩ := vd_zero.1 h
  obtain ⟨a, b⟩ := wf_obj a2
  show (J.mk 5 0 ⟨#[]⟩ ns.reverse es.reverse).eq _ = true
  rw [J.eq]
  simp only [J.kind, J.num, J.text, J.elems, J.names, List.length_reverse, and_self, decide_true, Bool.true_and]
  refine eqL_all fun j hj => ?_
  have hj' : j < es.length := by simpa using hj
  refine ⟨es[es.length - 1 - j]'(by omega), ?_, ?_⟩
  · unfold cp
    rw [Nat.zero_add, if_neg (by simp), List.getElem?_reverse (by omega), List.getElem?_eq_getElem (show ns.length - 1 - j < ns.length by omega)]
    simp only [J.names, J.elems]
    rw [findIdx_nodup b, show ns.length - 1 - j = es.length - 1 - j by omega, List.getElem?_eq_getElem (by omega)]
  · have e1 : es.reverse[j] = (es[es.length - 1 - j]'(by omega)) := List.getElem_reverse _
    rw [e1]
    exact eq_self (u := u) _ (a3 _ (List.getElem_mem _))
/-- every element of an equal value has its counterpart -/
theorem eqL_some {k : Int} {ns : List ByteArray} {b : J} : ∀ {es : List J} {i : Nat}, eqL k ns b i es = true → ∀ j (hj : j < es.length), ∃ b', cp k ns b (i + j) = some b' ∧ es[j].eq b' = true
  | [], i, h, j, hj => absurd hj (by simp)
  | e :: es, i, h, 0, hj => by
    rw [eqL, Bool.and_eq_true] at h
    cases hc : cp k ns b i with
    | none => rw [hc] at h; exact absurd h.1 (by simp)
    | some b' => rw [hc] at h; exact ⟨b', rfl, h.1⟩
  | e :: es, i, h, j + 1, hj => by
    rw [eqL, Bool.and_eq_true] at h
    obtain ⟨b', h1, h2⟩ := eqL_some h.2 j (by simpa using hj)
    exact ⟨b', by rw [show i + (j + 1) = i + 1 + j by omega]; exact h1, h2⟩
theorem eq_parts {k n : Int} {t : ByteArray} {ns : List ByteArray} {es : List J} {B : J} (h : (J.mk k n t ns es).eq B = true) : (k = B.kind ∧ n = B.num ∧ t = B.text ∧ es.length = B.elems.length ∧ ns.length = B.names.length) ∧ ∀ j (hj : j < es.length), ∃ b', cp k ns B j = some b' ∧ es[j].eq b' = true := by
  rw [J.eq, Bool.and_eq_true, decide_eq_true_eq] at h
  refine ⟨h.1, fun j hj => ?_⟩
  have := eqL_some h.2 j hj
  rwa [Nat.zero_add] at this
theorem eq_len {k n : Int} {t : ByteArray} {ns : List ByteArray} {es : List J} {B : J} (h : es.length ≠ B.elems.length) : (J.mk k n t ns es).eq B = false := by
  cases hb : (J.mk k n t ns es).eq B with
  | false => rfl
  | true => exact absurd (eq_parts hb).1.2.2.2.1 h
theorem eq_miss {k n : Int} {t : ByteArray} {ns : List ByteArray} {es : List J} {B : J} (i : Nat) (hi : i < es.length) (h : cp k ns B i = none) : (J.mk k n t ns es).eq B = false := by
  cases hb : (J.mk k n t ns es).eq B with
  | false => rfl
  | true =>
    obtain ⟨b', h1, _⟩ := (eq_parts hb).2 i hi
    rw [h] at h1
    cases h1
theorem equal_no {A B : J} (h : A.eq B = false) : A.equal u8 B = false := by unfold J.equal; rw [h, Bool.and_false]
theorem equal_yes {A B : J} (h1 : A.valid u8 = 0) (h2 : B.valid u8 = 0) (h : A.eq B = true) : A.equal u8 B = true := by unfold J.equal; rw [h, h1, h2]; rfl
theorem isNJ_zero {b : J} (h : isNJ b = true) : b = J.zero := by
  obtain ⟨k, n, t, ns, es⟩ := b
  unfold isNJ at h
  rw [Bool.and_eq_true, Bool.and_eq_true, Bool.and_eq_true] at h
  obtain ⟨h1, h2, h3, h4⟩ := h
  have e1 : k = 0 := of_decide_eq_true h1
  have e2 : n = 0 := of_decide_eq_true h2
  have e3 : t = ⟨#[]⟩ := of_decide_eq_true h3
  have h4 : ns.length + es.length = 0 := of_decide_eq_true h4
  subst e1
  subst e2
  subst e3
  obtain rfl : ns = [] := List.eq_nil_of_length_eq_zero (by omega)
  obtain rfl : es = [] := List.eq_nil_of_length_eq_zero (by omega)
  rfl
/-- a candidate that cannot be encoded, or is another object -/
theorem hit_no {j : J} {n : Nat} (h : (encN j n).1 = 0 → j.eq (encN j n).2 = false ∧ j.eq (shortN j n) = false) : hit j n = false := by
  unfold hit
  by_cases h0 : (encN j n).1 = 0
  · rw [equal_no (h h0).1, equal_no (h h0).2]; simp
  · rw [decide_eq_false h0]; rfl
theorem hit_yes {j E : J} {n : Nat} (h : encN j n = (0, E)) (h1 : j.valid u8 = 0) (h2 : E.valid u8 = 0) (h3 : j.eq E = true) : hit j n = true := by
  unfold hit
  rw [h]
  show (decide ((0 : Int) = 0) && (j.equal u8 E || _)) = true
  rw [equal_yes h1 h2 h3]
  rfl
/-- what is found of a message in an object -/
def Found (X : J) (k i c : Int) (t : ByteArray) (b : J) : Prop := ∃ n : Nat, n < 5 ∧ k = (n : Int) + 1 ∧ hit X n = true ∧ (∀ m : Nat, m < n → hit X m = false) ∧ candI X n = i ∧ candC X n = c ∧ candT X n = t ∧ candB X n = b
theorem enc_no {k i c : Int} {t : ByteArray} {b : J} (h : wfJ k i c t b = false) : ¬ (encM k i c t b).1 = 0 := fun h0 => by
  have := (encM_ok h0).2.1
  rw [h] at this
  cases this
theorem enc_eq {k i c : Int} {t : ByteArray} {b : J} (h : (encM k i c t b).1 = 0) : encM k i c t b = (0, toM k i c t b) := (encM_ok h).2.2.2.2
theorem wfJ_parts {k i c : Int} {t : ByteArray} {b : J} (h : wfJ k i c t b = true) : (k = 2 → i = 0) ∧ (k ≠ 4 → c = 0) ∧ (k = 4 ∨ k = 5 → b = J.zero) ∧ vmM k t = true := by
  unfold wfJ at h
  simp only [Bool.and_eq_true] at h
  obtain ⟨h1, h2, h3, h4⟩ := h
  refine ⟨fun hk => ?_, fun hk => ?_, fun hk => ?_, h4⟩
  · rw [if_pos hk] at h1; simpa using h1
  · rw [if_neg hk] at h2; simpa using h2
  · rw [if_pos hk] at h3; exact isNJ_zero h3
theorem vm_no {k : Int} (hk : k = 1 ∨ k = 2) : vmM k ⟨#[]⟩ = false := by rcases hk with rfl | rfl <;> rfl
theorem wf_vm {k i c : Int} {t : ByteArray} {b : J} (h : vmM k t = false) : wfJ k i c t b = false := by unfold wfJ; rw [h]; simp
theorem not_short {j : J} {n : Nat} (h : isShort j n = false) : shortN j n = (encN j n).2 := if_neg (by rw [h]; simp)
theorem hit_off {X : J} {n : Nat} {k i c : Int} {t : ByteArray} {b : J} (he : encN X n = encM k i c t b) (h1 : X.eq (toM k i c t b) = false) (h2 : isShort X n = true → X.eq (shortJ (toM k i c t b)) = false) : hit X n = false :=
  hit_no fun h0 => by
    rw [he] at h0
    have e := enc_eq h0
    have e2 : (encN X n).2 = toM k i c t b := by rw [he, e]
    rw [e2]
    refine ⟨h1, ?_⟩
    unfold shortN
    by_cases hs : isShort X n = true
    · rw [if_pos hs, e2]; exact h2 hs
    · rw [if_neg hs, e2]; exact h1
theorem hit_bad {X : J} {n : Nat} {k i c : Int} {t : ByteArray} {b : J} (he : encN X n = encM k i c t b) (h1 : wfJ k i c t b = false) : hit X n = false :=
  hit_no fun h0 => absurd (by rw [he] at h0; exact h0) (enc_no h1)
theorem lt_cases {n : Nat} {Q : Nat → Prop} (h : ∀ m, m < n → Q m) : ∀ m, m < n → Q m := h
def idT : ByteArray := ⟨#[105, 100]⟩
def meT : ByteArray := ⟨#[109, 101, 116, 104, 111, 100]⟩
def erT : ByteArray := ⟨#[101, 114, 114, 111, 114]⟩
def reT : ByteArray := ⟨#[114, 101, 115, 117, 108, 116]⟩
def coT : ByteArray := ⟨#[99, 111, 100, 101]⟩
def msT : ByteArray := ⟨#[109, 101, 115, 115, 97, 103, 101]⟩
section
variable {X : J} {i c : Int} {t : ByteArray} {b : J}
/-- a request -/
theorem found1 (hX : X = toM 1 i 0 t b ∨ X = topRev (toM 1 i 0 t b)) (he : encM 1 i 0 t b = (0, toM 1 i 0 t b)) (hv : X.valid u8 = 0) (hE : (toM 1 i 0 t b).valid u8 = 0) (heq : X.eq (toM 1 i 0 t b) = true) : Found X 1 i 0 t b := by
  have l1 : lk X idT = .mk 2 i ⟨#[]⟩ [] [] := by rcases hX with rfl | rfl <;> kernel_rfl
  have l2 : lk X meT = .mk 3 0 t [] [] := by rcases hX with rfl | rfl <;> kernel_rfl
  have l3 : lk X pT = b := by rcases hX with rfl | rfl <;> kernel_rfl
  have e : encN X 0 = (0, toM 1 i 0 t b) := by
    show encM 1 (lk X idT).num 0 (lk X meT).text (lk X pT) = _
    rw [l1, l2, l3]; exact he
  refine ⟨0, by decide, rfl, hit_yes e hv hE heq, fun m hm => absurd hm (by omega), ?_, rfl, ?_, ?_⟩
  · show (lk X idT).num = i; rw [l1]; rfl
  · show (lk X meT).text = t; rw [l2]; rfl
  · exact l3
/-- a notification -/
theorem found2 (hX : X = toM 2 0 0 t b ∨ X = topRev (toM 2 0 0 t b)) (he : encM 2 0 0 t b = (0, toM 2 0 0 t b)) (hv : X.valid u8 = 0) (hE : (toM 2 0 0 t b).valid u8 = 0) (heq : X.eq (toM 2 0 0 t b) = true) : Found X 2 0 0 t b := by
  have l1 : lk X idT = J.zero := by rcases hX with rfl | rfl <;> kernel_rfl
  have l2 : lk X meT = .mk 3 0 t [] [] := by rcases hX with rfl | rfl <;> kernel_rfl
  have l3 : lk X pT = b := by rcases hX with rfl | rfl <;> kernel_rfl
  have e : encN X 1 = (0, toM 2 0 0 t b) := by
    show encM 2 0 0 (lk X meT).text (lk X pT) = _
    rw [l2, l3]; exact he
  have e0 : encN X 0 = encM 1 0 0 t b := by
    show encM 1 (lk X idT).num 0 (lk X meT).text (lk X pT) = _
    rw [l1, l2, l3]; rfl
  have n0 : hit X 0 = false := hit_off e0 (by rcases hX with rfl | rfl <;> exact eq_len (by simp [toM, J.elems])) (fun _ => by
    rcases hX with rfl | rfl
    · exact eq_miss 1 (show 1 < 2 by decide) (by kernel_rfl)
    · exact eq_miss 0 (show 0 < 2 by decide) (by kernel_rfl))
  refine ⟨1, by decide, rfl, hit_yes e hv hE heq, fun m hm => by obtain rfl : m = 0 := by omega
                                                                 exact n0, rfl, rfl, ?_, ?_⟩
  · show (lk X meT).text = t; rw [l2]; rfl
  · exact l3
/-- a response -/
theorem found3 (hX : X = toM 3 i 0 ⟨#[]⟩ b ∨ X = topRev (toM 3 i 0 ⟨#[]⟩ b)) (he : encM 3 i 0 ⟨#[]⟩ b = (0, toM 3 i 0 ⟨#[]⟩ b)) (hv : X.valid u8 = 0) (hE : (toM 3 i 0 ⟨#[]⟩ b).valid u8 = 0) (heq : X.eq (toM 3 i 0 ⟨#[]⟩ b) = true) : Found X 3 i 0 ⟨#[]⟩ b := by
  have l1 : lk X idT = .mk 2 i ⟨#[]⟩ [] [] := by rcases hX with rfl | rfl <;> kernel_rfl
  have l2 : lk X meT = J.zero := by rcases hX with rfl | rfl <;> kernel_rfl
  have l4 : lk X reT = b := by rcases hX with rfl | rfl <;> kernel_rfl
  have e : encN X 2 = (0, toM 3 i 0 ⟨#[]⟩ b) := by
    show encM 3 (lk X idT).num 0 ⟨#[]⟩ (lk X reT) = _
    rw [l1, l4]; exact he
  have e0 : encN X 0 = encM 1 (lk X idT).num 0 ⟨#[]⟩ (lk X pT) := by
    show encM 1 (lk X idT).num 0 (lk X meT).text (lk X pT) = _
    rw [l2]; rfl
  have e1 : encN X 1 = encM 2 0 0 ⟨#[]⟩ (lk X pT) := by
    show encM 2 0 0 (lk X meT).text (lk X pT) = _
    rw [l2]; rfl
  have n0 := hit_bad e0 (wf_vm (vm_no (Or.inl rfl)))
  have n1 := hit_bad e1 (wf_vm (vm_no (Or.inr rfl)))
  refine ⟨2, by decide, rfl, hit_yes e hv hE heq, fun m hm => ?_, ?_, rfl, rfl, ?_⟩
  · have : m = 0 ∨ m = 1 := by omega
    rcases this with rfl | rfl
    · exact n0
    · exact n1
  · show (lk X idT).num = i; rw [l1]; rfl
  · exact l4
/-- a failure -/
theorem found4 (hX : X = toM 4 i c t J.zero ∨ X = topRev (toM 4 i c t J.zero)) (he : encM 4 i c t J.zero = (0, toM 4 i c t J.zero)) (hv : X.valid u8 = 0) (hE : (toM 4 i c t J.zero).valid u8 = 0) (heq : X.eq (toM 4 i c t J.zero) = true) : Found X 4 i c t J.zero := by
  have l1 : lk X idT = .mk 2 i ⟨#[]⟩ [] [] := by rcases hX with rfl | rfl <;> kernel_rfl
  have l2 : lk X meT = J.zero := by rcases hX with rfl | rfl <;> kernel_rfl
  have l4 : lk X reT = J.zero := by rcases hX with rfl | rfl <;> kernel_rfl
  have l5 : lk (lk X erT) coT = .mk 2 c ⟨#[]⟩ [] [] := by rcases hX with rfl | rfl <;> kernel_rfl
  have l6 : lk (lk X erT) msT = .mk 3 0 t [] [] := by rcases hX with rfl | rfl <;> kernel_rfl
  have e : encN X 3 = (0, toM 4 i c t J.zero) := by
    show encM 4 (lk X idT).num (lk (lk X erT) coT).num (lk (lk X erT) msT).text J.zero = _
    rw [l1, l5, l6]; exact he
  have e0 : encN X 0 = encM 1 (lk X idT).num 0 ⟨#[]⟩ (lk X pT) := by
    show encM 1 (lk X idT).num 0 (lk X meT).text (lk X pT) = _
    rw [l2]; rfl
  have e1 : encN X 1 = encM 2 0 0 ⟨#[]⟩ (lk X pT) := by
    show encM 2 0 0 (lk X meT).text (lk X pT) = _
    rw [l2]; rfl
  have e2 : encN X 2 = encM 3 i 0 ⟨#[]⟩ J.zero := by
    show encM 3 (lk X idT).num 0 ⟨#[]⟩ (lk X reT) = _
    rw [l1, l4]; rfl
  have n0 := hit_bad e0 (wf_vm (vm_no (Or.inl rfl)))
  have n1 := hit_bad e1 (wf_vm (vm_no (Or.inr rfl)))
  have s2 : isShort X 2 = false := by unfold isShort; rw [show decide (lastNm 2 = pT) = false by decide]; rfl
  have n2 : hit X 2 = false := hit_off e2 (by
    rcases hX with rfl | rfl
    · exact eq_miss 1 (show 1 < 2 by decide) (by kernel_rfl)
    · exact eq_miss 0 (show 0 < 2 by decide) (by kernel_rfl)) (fun h => by rw [s2] at h; cases h)
  refine ⟨3, by decide, rfl, hit_yes e hv hE heq, fun m hm => ?_, ?_, ?_, ?_, rfl⟩
  · have : m = 0 ∨ m = 1 ∨ m = 2 := by omega
    rcases this with rfl | rfl | rfl
    · exact n0
    · exact n1
    · exact n2
  · show (lk X idT).num = i; rw [l1]; rfl
  · show (lk (lk X erT) coT).num = c; rw [l5]; rfl
  · show (lk (lk X erT) msT).text = t; rw [l6]; rfl
/-- a cancel -/
theorem found5 (hX : X = toM 5 i 0 ⟨#[]⟩ J.zero ∨ X = topRev (toM 5 i 0 ⟨#[]⟩ J.zero)) (he : encM 5 i 0 ⟨#[]⟩ J.zero = (0, toM 5 i 0 ⟨#[]⟩ J.zero)) (hv : X.valid u8 = 0) (hE : (toM 5 i 0 ⟨#[]⟩ J.zero).valid u8 = 0) (heq : X.eq (toM 5 i 0 ⟨#[]⟩ J.zero) = true) : Found X 5 i 0 ⟨#[]⟩ J.zero := by
  have l1 : lk X idT = J.zero := by rcases hX with rfl | rfl <;> kernel_rfl
  have l2 : lk X meT = .mk 3 0 cancelT [] [] := by rcases hX with rfl | rfl <;> kernel_rfl
  have l3 : lk X pT = .mk 5 0 ⟨#[]⟩ [idT] [.mk 2 i ⟨#[]⟩ [] []] := by rcases hX with rfl | rfl <;> kernel_rfl
  have l4 : lk X reT = J.zero := by rcases hX with rfl | rfl <;> kernel_rfl
  have l5 : lk (lk X erT) coT = J.zero := by rcases hX with rfl | rfl <;> kernel_rfl
  have l7 : lk (lk X pT) idT = .mk 2 i ⟨#[]⟩ [] [] := by rcases hX with rfl | rfl <;> kernel_rfl
  have e : encN X 4 = (0, toM 5 i 0 ⟨#[]⟩ J.zero) := by
    show encM 5 (lk (lk X pT) idT).num 0 ⟨#[]⟩ J.zero = _
    rw [l7]; exact he
  have e0 : encN X 0 = encM 1 0 0 cancelT (.mk 5 0 ⟨#[]⟩ [idT] [.mk 2 i ⟨#[]⟩ [] []]) := by
    show encM 1 (lk X idT).num 0 (lk X meT).text (lk X pT) = _
    rw [l1, l2, l3]; rfl
  have e1 : encN X 1 = encM 2 0 0 cancelT (.mk 5 0 ⟨#[]⟩ [idT] [.mk 2 i ⟨#[]⟩ [] []]) := by
    show encM 2 0 0 (lk X meT).text (lk X pT) = _
    rw [l2, l3]; rfl
  have e2 : encN X 2 = encM 3 0 0 ⟨#[]⟩ J.zero := by
    show encM 3 (lk X idT).num 0 ⟨#[]⟩ (lk X reT) = _
    rw [l1, l4]; rfl
  have e3 : encN X 3 = encM 4 0 0 (lk (lk X erT) msT).text J.zero := by
    show encM 4 (lk X idT).num (lk (lk X erT) coT).num (lk (lk X erT) msT).text J.zero = _
    rw [l1, l5]; rfl
  have s0 : isShort X 0 = false := by
    show (decide (lastNm 0 = pT) && (isNJ (lk X pT) && decide ((0 : Nat) ≠ 4))) = false
    rw [l3]; simp [isNJ, J.kind]
  have n0 : hit X 0 = false := hit_off e0 (by rcases hX with rfl | rfl <;> exact eq_len (by simp [toM, J.elems])) (fun h => by rw [s0] at h; cases h)
  have n1 := hit_bad e1 (wf_vm (by kernel_rfl))
  have s2 : isShort X 2 = false := by unfold isShort; rw [show decide (lastNm 2 = pT) = false by decide]; rfl
  have n2 : hit X 2 = false := hit_off e2 (by
    rcases hX with rfl | rfl
    · exact eq_miss 0 (show 0 < 2 by decide) (by kernel_rfl)
    · exact eq_miss 0 (show 0 < 2 by decide) (by kernel_rfl)) (fun h => by rw [s2] at h; cases h)
  have n3 := hit_bad e3 (by unfold wfJ; simp)
  refine ⟨4, by decide, rfl, hit_yes e hv hE heq, fun m hm => ?_, ?_, rfl, rfl, rfl⟩
  · have : m = 0 ∨ m = 1 ∨ m = 2 ∨ m = 3 := by omega
    rcases this with rfl | rfl | rfl | rfl
    · exact n0
    · exact n1
    · exact n2
    · exact n3
  · show (lk (lk X pT) idT).num = i; rw [l7]; rfl
end
theorem toM_obj (k i c : Int) (t : ByteArray) (b : J) : ∃ ns es, toM k i c t b = .mk 5 0 ⟨#[]⟩ ns es := by
  unfold toM
  split
  · exact ⟨_, _, rfl⟩
  split
  · exact ⟨_, _, rfl⟩
  split
  · exact ⟨_, _, rfl⟩
  split <;> exact ⟨_, _, rfl⟩
/-- an encoded message is found, and so it is once its members are turned round -/
theorem found_any {k i c : Int} {t : ByteArray} {b : J} (h0 : (encM k i c t b).1 = 0) {X : J} (hX : X = toM k i c t b ∨ X = topRev (toM k i c t b)) : X.valid u8 = 0 ∧ Found X k i c t b := by
  obtain ⟨hk, hw, hb, hE, he⟩ := encM_ok h0
  obtain ⟨w1, w2, w3, w4⟩ := wfJ_parts hw
  have hvd := (valid_parts hE).2.2
  have hv : X.valid u8 = 0 := by
    rcases hX with rfl | rfl
    · exact hE
    · obtain ⟨ns, es, e⟩ := toM_obj k i c t b
      rw [e] at hE ⊢
      exact topRev_valid hE
  have heq : X.eq (toM k i c t b) = true := by
    rcases hX with rfl | rfl
    · exact eq_self (u := u8) _ hvd
    · obtain ⟨ns, es, e⟩ := toM_obj k i c t b
      rw [e] at hvd ⊢
      exact topRev_eq hvd
  refine ⟨hv, ?_⟩
  have hk5 : k = 1 ∨ k = 2 ∨ k = 3 ∨ k = 4 ∨ k = 5 := by omega
  rcases hk5 with rfl | rfl | rfl | rfl | rfl
  · obtain rfl := w2 (by decide)
    exact found1 hX he hv hE heq
  · obtain rfl := w2 (by decide)
    obtain rfl := w1 rfl
    exact found2 hX he hv hE heq
  · obtain rfl := w2 (by decide)
    obtain rfl : t = ⟨#[]⟩ := by simpa [vmM] using w4
    exact found3 hX he hv hE heq
  · obtain rfl := w3 (Or.inl rfl)
    exact found4 hX he hv hE heq
  · obtain rfl := w2 (by decide)
    obtain rfl : t = ⟨#[]⟩ := by simpa [vmM] using w4
    obtain rfl := w3 (Or.inr rfl)
    exact found5 hX he hv hE heq
end Go.Proofs.YtiklgipcgdgkoaaDoor.Jv
