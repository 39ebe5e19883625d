/- JsonrpcDecodeEncode, the plain law: what Decode finds is encoded as an equal object, but for omitted params. -/
import Derived.Test.YtiklgipcgdgkoaaDoorJrP
namespace Go.Proofs.YtiklgipcgdgkoaaDoor.Jv
set_option linter.unusedVariables false
set_option linter.unusedSimpArgs false
theorem leaf_eq {A : J} {k n : Int} {t : ByteArray} (h : A.eq (.mk k n t [] []) = true) : A = .mk k n t [] [] := by
  obtain ⟨k', n', t', ns, es⟩ := A
  obtain ⟨⟨h1, h2, h3, h4, h5⟩, _⟩ := eq_parts h
  obtain rfl : es = [] := List.eq_nil_of_length_eq_zero h4
  obtain rfl : ns = [] := List.eq_nil_of_length_eq_zero h5
  have h1 : k' = k := h1
  have h2 : n' = n := h2
  have h3 : t' = t := h3
  rw [h1, h2, h3]
theorem cp_two {ns : List ByteArray} {s0 s1 x : ByteArray} {A B b' : J} {i : Nat} (h : cp 5 ns (.mk 5 0 ⟨#[]⟩ [s0, s1] [A, B]) i = some b') (hx : ns[i]? = some x) : (x = s0 ∧ b' = A) ∨ (x = s1 ∧ b' = B) := by
  unfold cp at h
  rw [if_neg (by simp), hx] at h
  simp only [J.names, J.elems] at h
  by_cases h0 : s0 = x
  · rw [List.findIdx_cons, decide_eq_true h0] at h
    exact Or.inl ⟨h0.symm, by simpa using h.symm⟩
  · by_cases h1 : s1 = x
    · rw [List.findIdx_cons, decide_eq_false h0, List.findIdx_cons, decide_eq_true h1] at h
      exact Or.inr ⟨h1.symm, by simpa using h.symm⟩
    · rw [List.findIdx_cons, decide_eq_false h0, List.findIdx_cons, decide_eq_false h1] at h
      simp at h
theorem eq_two {X A B : J} {s0 s1 : ByteArray} (h : X.eq (.mk 5 0 ⟨#[]⟩ [s0, s1] [A, B]) = true) (hv : X.vd u8 = 0) (hA : ∀ Y : J, Y.eq A = true → Y = A) (hB : ∀ Y : J, Y.eq B = true → Y = B) : X = .mk 5 0 ⟨#[]⟩ [s0, s1] [A, B] ∨ X = .mk 5 0 ⟨#[]⟩ [s1, s0] [B, A] := by
  obtain ⟨k, n, t, ns, es⟩ := X
  obtain ⟨⟨h1, h2, h3, h4, h5⟩, h6⟩ := eq_parts h
  obtain rfl : k = 5 := h1
  obtain rfl : n = 0 := h2
  obtain rfl : t = ⟨#[]⟩ := h3
  have hw := (wf_obj (vd_zero.1 hv).2.1).2
  match es, h4, ns, h5 with
  | [e0, e1], _, [n0, n1], _ =>
    have hne : n0 ≠ n1 := by
      intro h
      rw [h] at hw
      simp at hw
    obtain ⟨b0, c0, q0⟩ := h6 0 (by simp)
    obtain ⟨b1, c1, q1⟩ := h6 1 (by simp)
    have q0 : e0.eq b0 = true := q0
    have q1 : e1.eq b1 = true := q1
    rcases cp_two c0 rfl with ⟨r0, d0⟩ | ⟨r0, d0⟩ <;> rcases cp_two c1 rfl with ⟨r1, d1⟩ | ⟨r1, d1⟩
    · exact absurd (r0.trans r1.symm) hne
    · left; rw [d0] at q0; rw [d1] at q1; rw [hA _ q0, hB _ q1, r0, r1]
    · right; rw [d0] at q0; rw [d1] at q1; rw [hB _ q0, hA _ q1, r0, r1]
    · exact absurd (r0.trans r1.symm) hne
theorem eq_one {X A : J} {s0 : ByteArray} (h : X.eq (.mk 5 0 ⟨#[]⟩ [s0] [A]) = true) (hA : ∀ Y : J, Y.eq A = true → Y = A) : X = .mk 5 0 ⟨#[]⟩ [s0] [A] := by
  obtain ⟨k, n, t, ns, es⟩ := X
  obtain ⟨⟨h1, h2, h3, h4, h5⟩, h6⟩ := eq_parts h
  obtain rfl : k = 5 := h1
  obtain rfl : n = 0 := h2
  obtain rfl : t = ⟨#[]⟩ := h3
  match es, h4, ns, h5 with
  | [e0], _, [n0], _ =>
    obtain ⟨b0, c0, q0⟩ := h6 0 (by simp)
    have q0 : e0.eq b0 = true := q0
    unfold cp at c0
    rw [if_neg (by simp)] at c0
    simp only [List.getElem?_cons_zero, J.names, J.elems] at c0
    by_cases h0 : s0 = n0
    · rw [List.findIdx_cons, decide_eq_true h0] at c0
      have hb : b0 = A := by simpa using c0.symm
      rw [hb] at q0
      rw [hA _ q0, h0]
    · rw [List.findIdx_cons, decide_eq_false h0] at c0
      simp at c0
def idN : ByteArray := ⟨#[105, 100]⟩
def meN : ByteArray := ⟨#[109, 101, 116, 104, 111, 100]⟩
theorem isShort_lt {X : J} {n : Nat} (hn : n < 5) (h : isShort X n = true) : (n = 0 ∨ n = 1) ∧ isNJ (candB X n) = true := by
  unfold isShort at h
  rw [Bool.and_eq_true, Bool.and_eq_true, decide_eq_true_eq, decide_eq_true_eq] at h
  obtain ⟨h1, h2, h3⟩ := h
  refine ⟨?_, h2⟩
  have hn5 : n = 0 ∨ n = 1 ∨ n = 2 ∨ n = 3 ∨ n = 4 := by omega
  rcases hn5 with rfl | rfl | rfl | rfl | rfl
  · exact Or.inl rfl
  · exact Or.inr rfl
  · exact absurd h1 (by decide)
  · exact absurd h1 (by decide)
  · exact absurd rfl h3
/-- the object with the params that were left out -/
def withP (X : J) : J := .mk X.kind 0 ⟨#[]⟩ (X.names ++ [pT]) (X.elems ++ [J.zero])
theorem equal_parts {A B : J} (h : A.equal u8 B = true) : A.valid u8 = 0 ∧ B.valid u8 = 0 ∧ A.eq B = true := by
  unfold J.equal at h
  rw [Bool.and_eq_true, Bool.and_eq_true, decide_eq_true_eq, decide_eq_true_eq] at h
  exact ⟨h.1.1, h.1.2, h.2⟩
theorem eq_names {A B : J} (h : A.eq B = true) : A.names.length = B.names.length := by
  obtain ⟨k, n, t, ns, es⟩ := A
  exact (eq_parts h).1.2.2.2.2
theorem de_law {X : J} {n : Nat} (hn : n < 5) (h : hit X n = true) : (encN X n).1 = 0 ∧ ((X.names.length = (encN X n).2.names.length ∧ X.equal u8 (encN X n).2 = true) ∨ (X.names.length + 1 = (encN X n).2.names.length ∧ X.names.length ≤ 2 ∧ X.elems.length ≤ 2 ∧ X.kind = 5 ∧ (withP X).equal u8 (encN X n).2 = true)) := by
  unfold hit at h
  rw [Bool.and_eq_true, Bool.or_eq_true, decide_eq_true_eq] at h
  obtain ⟨h0, h⟩ := h
  refine ⟨h0, ?_⟩
  rcases h with h | h
  · exact Or.inl ⟨eq_names (equal_parts h).2.2, h⟩
  by_cases hs : isShort X n = true
  case neg =>
    unfold shortN at h
    rw [if_neg hs] at h
    exact Or.inl ⟨eq_names (equal_parts h).2.2, h⟩
  case pos =>
    right
    obtain ⟨hn', hb⟩ := isShort_lt hn hs
    have hz := isNJ_zero hb
    obtain ⟨_, _, _, hE, he⟩ := encM_ok h0
    unfold shortN at h
    rw [if_pos hs] at h
    obtain ⟨hX, _, hq⟩ := equal_parts h
    have hXv := (valid_parts hX).2.2
    have e : encN X n = (0, toM ((n : Int) + 1) (candI X n) (candC X n) (candT X n) (candB X n)) := he
    rw [e] at hq ⊢
    rw [hz] at hE hq ⊢
    rcases hn' with rfl | rfl
    · have hq' : X.eq (.mk 5 0 ⟨#[]⟩ [idN, meN] [.mk 2 (candI X 0) ⟨#[]⟩ [] [], .mk 3 0 (candT X 0) [] []]) = true := hq
      have hE' : (J.mk 5 0 ⟨#[]⟩ [idN, meN, pT] [.mk 2 (candI X 0) ⟨#[]⟩ [] [], .mk 3 0 (candT X 0) [] [], J.zero]).valid u8 = 0 := hE
      show _ = (J.mk 5 0 ⟨#[]⟩ [idN, meN, pT] [.mk 2 (candI X 0) ⟨#[]⟩ [] [], .mk 3 0 (candT X 0) [] [], J.zero]).names.length ∧ _ ∧ _ ∧ _ ∧ J.equal u8 (withP X) (J.mk 5 0 ⟨#[]⟩ [idN, meN, pT] [.mk 2 (candI X 0) ⟨#[]⟩ [] [], .mk 3 0 (candT X 0) [] [], J.zero]) = true
      generalize candI X 0 = i at hq' hE' ⊢
      generalize candT X 0 = t at hq' hE' ⊢
      rcases eq_two hq' hXv (fun _ => leaf_eq) (fun _ => leaf_eq) with rfl | rfl
      · exact ⟨rfl, Nat.le_refl _, Nat.le_refl _, rfl, equal_yes hE' hE' (eq_self (u := u8) _ (valid_parts hE').2.2)⟩
      · refine ⟨rfl, Nat.le_refl _, Nat.le_refl _, rfl, equal_yes ?_ hE' ?_⟩
        · obtain ⟨p1, p2, p3⟩ := valid_parts hE'
          obtain ⟨a1, a2, a3⟩ := vd_zero.1 p3
          have q1 : (withP (J.mk 5 0 ⟨#[]⟩ [meN, idN] [.mk 3 0 t [] [], .mk 2 i ⟨#[]⟩ [] []])).nodes ≤ 400 := by simp [withP, J.nodes, nodesL, J.zero, J.elems]
          have q2 : (withP (J.mk 5 0 ⟨#[]⟩ [meN, idN] [.mk 3 0 t [] [], .mk 2 i ⟨#[]⟩ [] []])).depth ≤ 20 := by simp [withP, J.depth, depthL, J.zero, J.elems]
          unfold J.valid
          rw [if_pos ⟨q1, q2⟩]
          refine vd_zero.2 ⟨(by decide : (0 : Int) ≤ 5 ∧ (5 : Int) < 6), by kernel_rfl, fun e he => a3 e ?_⟩
          have he : e ∈ [J.mk 3 0 t [] [], J.mk 2 i ⟨#[]⟩ [] [], J.zero] := he
          simp only [List.mem_cons, List.not_mem_nil, or_false] at he ⊢
          rcases he with h | h | h
          · exact Or.inr (Or.inl h)
          · exact Or.inl h
          · exact Or.inr (Or.inr h)
        · have l1 : (J.mk 3 0 t [] []).eq (.mk 3 0 t [] []) = true := by rw [J.eq, eqL]; simp [J.kind, J.num, J.text, J.elems, J.names]
          have l2 : (J.mk 2 i ⟨#[]⟩ [] []).eq (.mk 2 i ⟨#[]⟩ [] []) = true := by rw [J.eq, eqL]; simp [J.kind, J.num, J.text, J.elems, J.names]
          have l3 : J.zero.eq J.zero = true := by kernel_rfl
          show (J.mk 5 0 ⟨#[]⟩ [meN, idN, pT] [.mk 3 0 t [] [], .mk 2 i ⟨#[]⟩ [] [], J.zero]).eq _ = true
          rw [J.eq]
          have c0 : cp 5 [meN, idN, pT] (J.mk 5 0 ⟨#[]⟩ [idN, meN, pT] [.mk 2 i ⟨#[]⟩ [] [], .mk 3 0 t [] [], J.zero]) 0 = some (.mk 3 0 t [] []) := by kernel_rfl
          have c1 : cp 5 [meN, idN, pT] (J.mk 5 0 ⟨#[]⟩ [idN, meN, pT] [.mk 2 i ⟨#[]⟩ [] [], .mk 3 0 t [] [], J.zero]) 1 = some (.mk 2 i ⟨#[]⟩ [] []) := by kernel_rfl
          have c2 : cp 5 [meN, idN, pT] (J.mk 5 0 ⟨#[]⟩ [idN, meN, pT] [.mk 2 i ⟨#[]⟩ [] [], .mk 3 0 t [] [], J.zero]) 2 = some J.zero := by kernel_rfl
          rw [eqL, eqL, eqL, eqL, c0]
          simp only [Nat.zero_add, Nat.reduceAdd]
          rw [c1, c2]
          simp only [l1, l2, l3, J.kind, J.num, J.text, J.elems, J.names, List.length_cons, List.length_nil, Bool.and_true, and_self, decide_true]
    · have hq' : X.eq (.mk 5 0 ⟨#[]⟩ [meN] [.mk 3 0 (candT X 1) [] []]) = true := hq
      have hE' : (J.mk 5 0 ⟨#[]⟩ [meN, pT] [.mk 3 0 (candT X 1) [] [], J.zero]).valid u8 = 0 := hE
      show _ = (J.mk 5 0 ⟨#[]⟩ [meN, pT] [.mk 3 0 (candT X 1) [] [], J.zero]).names.length ∧ _ ∧ _ ∧ _ ∧ J.equal u8 (withP X) (J.mk 5 0 ⟨#[]⟩ [meN, pT] [.mk 3 0 (candT X 1) [] [], J.zero]) = true
      generalize candT X 1 = t at hq' hE' ⊢
      obtain rfl := eq_one hq' (fun _ => leaf_eq)
      exact ⟨rfl, (by decide : (1 : Nat) ≤ 2), (by decide : (1 : Nat) ≤ 2), rfl, equal_yes hE' hE' (eq_self (u := u8) _ (valid_parts hE').2.2)⟩
end Go.Proofs.YtiklgipcgdgkoaaDoor.Jv
