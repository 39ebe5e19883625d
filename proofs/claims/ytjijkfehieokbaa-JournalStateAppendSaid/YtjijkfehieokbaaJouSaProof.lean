/- JournalStateAppend returns true for every list of records and every record: it holds without any condition. Appending an assignment makes it effective, appending a deletion removes the key, other keys are not affected. -/
import Derived.Test.YtjijkfehieokbaaJouQ
import Derived.Test.YtjijkfehieokbaaJouRtProof
namespace Go.Proofs.Ytjijkfehieokbaa
open Go.ChangeShapes Go.WideShapes Go.ChangeAt Go.RowKit Go.Deep
set_option linter.unusedVariables false
theorem open_recsK {H : Type} {enc : TypeId × Value → H} {W : World} {fuel : Nat} {a0 : Option Addr} {len0 cap0 : Nat} {x : DataW H × List MemPlace}
    (h : DataW.trod enc Try.prog W 0 (fun _ => true) true fuel 22 [.slice a0 len0 cap0] = some x) : ∃ ss, RecsAt W (.slice a0 len0 cap0) ss ∧ ∀ r ∈ ss, r.key.size ≤ maxLen := by
  rcases open_slice Try.underlying22 h with ⟨hcs, _⟩ | ⟨a, len, cap, m, n, D, Pl, hcs, hb, hl, hm, hmm, hx, hi⟩
  · simp at hcs
    obtain ⟨rfl, rfl, rfl⟩ := hcs
    exact ⟨[], Or.inl ⟨rfl, rfl⟩, by simp⟩
  · simp only [List.cons.injEq, Value.slice.injEq, and_true] at hcs
    obtain ⟨rfl, rfl, rfl⟩ := hcs
    simp only [if_true] at hmm
    have hf : ∀ i, i < len0 → ∃ p : Rec, W.cell? (a.add (i * 3 + 0)) = some (.string p.key) ∧ W.cell? (a.add (i * 3 + 1)) = some (.string p.val) ∧ W.cell? (a.add (i * 3 + 2)) = some (.bool p.del) ∧ p.key.size ≤ maxLen := by
      intro i him
      obtain ⟨cs', hc, ht⟩ := hi i (by omega)
      rw [Try.cellsRec] at hc
      obtain ⟨y0, y1, y2, n', _, hlen, t0, t1, t2⟩ := trod_struct3 Try.underlying31 ht
      obtain ⟨_, hcl, hat⟩ := World.cells?_some hc
      simp only [Try.cellsStr, Try.cellsBool] at t0 t1 t2
      have e0 : cs'[0]? = some (cs'[0]'(by omega)) := List.getElem?_eq_getElem (by omega)
      have e1 : cs'[1]? = some (cs'[1]'(by omega)) := List.getElem?_eq_getElem (by omega)
      have e2 : cs'[2]? = some (cs'[2]'(by omega)) := List.getElem?_eq_getElem (by omega)
      have d0 : (cs'.drop 0).take 1 = [cs'[0]'(by omega)] := by rw [List.drop_eq_getElem_cons (by omega)]; rfl
      have d1 : (cs'.drop 1).take 1 = [cs'[1]'(by omega)] := by rw [List.drop_eq_getElem_cons (by omega)]; rfl
      have d2 : (cs'.drop 2).take 1 = [cs'[2]'(by omega)] := by rw [List.drop_eq_getElem_cons (by omega)]; rfl
      rw [d0] at t0
      rw [d1] at t1
      rw [d2] at t2
      obtain ⟨z0, h0, _, hz0⟩ := DataW.trod_string Try.underlying9 t0
      obtain ⟨z1, h1, _⟩ := DataW.trod_string Try.underlying9 t1
      obtain ⟨z2, h2, _⟩ := DataW.trod_bool Try.underlying4 t2
      simp only [List.cons.injEq, and_true] at h0 h1 h2
      refine ⟨⟨z0, z1, z2⟩, ?_, ?_, ?_, hz0⟩
      · rw [← add_add, hat 0 (by omega), e0, h0]
      · rw [← add_add, hat 1 (by omega), e1, h1]
      · rw [← add_add, hat 2 (by omega), e2, h2]
    obtain ⟨b, off, spot⟩ := a
    by_cases h0 : len0 = 0
    · subst h0
      exact ⟨[], Or.inr (Or.inl ⟨_, _, rfl, rfl⟩), by simp⟩
    · have hspot : spot = none := by
        obtain ⟨p, hp, _⟩ := hf 0 (by omega)
        simpa [Addr.add] using World.cell?_spot hp
      subst hspot
      have hex : ∃ f : Nat → Rec, ∀ i, i < len0 → W.cell? ((⟨b, off, none⟩ : Addr).add (i * 3 + 0)) = some (.string (f i).key) ∧ W.cell? ((⟨b, off, none⟩ : Addr).add (i * 3 + 1)) = some (.string (f i).val) ∧ W.cell? ((⟨b, off, none⟩ : Addr).add (i * 3 + 2)) = some (.bool (f i).del) ∧ (f i).key.size ≤ maxLen :=
        ⟨fun i => if hi : i < len0 then (hf i hi).choose else Rec.zero, fun i hi => by simp only [dif_pos hi]; exact (hf i hi).choose_spec⟩
      obtain ⟨f, hff⟩ := hex
      refine ⟨(List.range len0).map f, Or.inr (Or.inr ⟨b, off, cap0, by simp, by simpa using hl, hm, fun i hi => ?_⟩), fun r hr => ?_⟩
      rotate_left
      · obtain ⟨i, hi, rfl⟩ := List.mem_map.1 hr
        exact (hff i (List.mem_range.1 hi)).2.2.2
      have hi' : i < len0 := by simpa using hi
      have hfi := hff i hi'
      have e : ((List.range len0).map f).getD i Rec.zero = f i := by simp [hi']
      simp only [Addr.add_lit] at hfi
      rw [e]
      exact ⟨hfi.1, by rw [Nat.add_assoc]; exact hfi.2.1, by rw [Nat.add_assoc]; exact hfi.2.2.1⟩
theorem open_recK {H : Type} {enc : TypeId × Value → H} {W : World} {base : Nat} {v : Value} {d : DataW H} {ps : List MemPlace}
    (hval : Value.okWide Try.prog W .any base 31 v) (hd : DataW.Trod enc Try.prog W 0 (fun _ => true) true 31 v d ps) : ∃ rc : Rec, v = .agg #[.string rc.key, .string rc.val, .bool rc.del] ∧ rc.key.size ≤ maxLen := by
  obtain ⟨cs, rfl, hsz⟩ := okWide_struct Try.underlying31 hval
  rw [Try.cellsRec] at hsz
  obtain ⟨fuel, hf⟩ := hd
  have hce : (Value.agg cs).cells = cs := rfl
  rw [hce] at hf
  have hlen : cs.toList.length = 3 := by simpa using hsz
  obtain ⟨y0, y1, y2, n', _, _, t0, t1, t2⟩ := trod_struct3 Try.underlying31 hf
  simp only [Try.cellsStr, Try.cellsBool] at t0 t1 t2
  obtain ⟨l⟩ := cs
  match l, hlen with
  | [c0, c1, c2], _ =>
    obtain ⟨z0, h0, _, hz0⟩ := DataW.trod_string Try.underlying9 t0
    obtain ⟨z1, h1, _⟩ := DataW.trod_string Try.underlying9 t1
    obtain ⟨z2, h2, _⟩ := DataW.trod_bool Try.underlying4 t2
    simp only [List.drop_zero, List.drop_succ_cons, List.take_succ_cons, List.take_zero, List.cons.injEq, and_true] at h0 h1 h2
    subst h0 h1 h2
    exact ⟨⟨z0, z1, z2⟩, rfl, hz0⟩

set_option maxRecDepth 100000 in
theorem stateAppend_lifted (os : Os) (started : os.Started) (H : Type) (enc : TypeId × Value → H) :
    ReturnsInHanded {} Try.checked os 6 .any (Rows.journalStateAppendSpec.pre6 enc Try.prog Try.f6 Rows.journalStateAppendRow.domain false) (Rows.journalStateAppendSpec.post enc Try.prog Try.f6 false true false false) := by
  refine returnsInHanded_of_change (C := Try.checked) Try.own started (by kernel_rfl) Try.func6
    (ChangeSpec.witness6 (enc := enc) (C := Try.checked) false ⟨#[], #[.slice none 0 0, .agg #[.string ⟨#[]⟩, .string ⟨#[]⟩, .bool false]], []⟩ 8 (by kernel_rfl) (by kernel_rfl) (by kernel_rfl) (by kernel_rfl)) ?_
  intro W base args ds gs before hval0 hW hcnd _
  have hval : ∀ (j : Nat) t v, Try.f6.params[j]? = some t → args[j]? = some v → Value.okWide Try.prog W .any base t v := hval0
  have hW' := hW
  obtain ⟨p, q, hA0, hV, rfl, hfz, hnd⟩ := hW
  have hA : DataW.TrodAll enc Try.prog W 0 (fun _ => true) true Try.f6.params.toList args.toList ds p := hA0
  rw [Try.params6] at hA hval
  obtain ⟨v0, vs0, d0, ds0, p0, q0, hargs, rfl, rfl, h0, r0⟩ := trodAll_cons hA
  obtain ⟨v1, vs1, d1, ds1, p1, q1, rfl, rfl, rfl, h1, r1⟩ := trodAll_cons r0
  obtain ⟨rfl, rfl, rfl⟩ := trodAll_nil r1
  obtain rfl : args = #[v0, v1] := by cases args; simp_all
  obtain ⟨rfl, rfl⟩ := trodVars_none hV
  obtain ⟨a0, len0, cap0, rfl⟩ := okWide_slice Try.underlying22 (hval 0 22 v0 rfl rfl)
  have k0 := h0
  have lt0 : ∀ x ∈ p0, x.block < W.heap.size := by obtain ⟨m, hm⟩ := k0; exact DataW.trod_lt m _ _ _ hm
  obtain ⟨fuel, hf⟩ := h0
  obtain ⟨ss, hss, hks⟩ := open_recsK hf
  have k1 := h1
  have lt1 : ∀ x ∈ p1, x.block < W.heap.size := by obtain ⟨m, hm⟩ := k1; exact DataW.trod_lt m _ _ _ hm
  have h1v := hval 1 31 v1 rfl rfl
  obtain ⟨rc, rfl, hrk⟩ := open_recK h1v h1
  clear hA0 hval0
  refine (stateAppend_any W _ rc.key rc.val rc.del ss hss hks hrk).mono fun e W' ⟨he, hch⟩ => ?_
  have bel : Below W.heap.size W W' := hch.below (Nat.le_refl _) (by simp)
  subst he
  exact ⟨_, rfl, _, _, _, [], _, [], hW', trodAll_mk1 (shut_bool Try.underlying4 _), (trodAll_cons_mk (Below.trod Try.laidOut (by kernel_rfl) (of_decide_eq_true (by kernel_rfl)) k0 bel lt0) (trodAll_cons_mk (Below.trod Try.laidOut (by kernel_rfl) (of_decide_eq_true (by kernel_rfl)) k1 bel lt1) trodAll_mk0)), rfl, bel.frame _, fun h => by cases h⟩

theorem stateAppend_holds : Rows.JournalStateAppendSaid :=
  OpenClaim.holds_of_wide 6 Try.f6 rfl rfl rfl rfl rfl rfl rfl ⟨rfl, rfl, rfl, rfl, rfl⟩ rfl rfl rfl rfl rfl (by kernel_rfl) Try.func6 (by kernel_rfl)
    (of_decide_eq_true (by kernel_rfl)) (by unfold Func.isWrapper; first | (rw [if_pos (by decide +kernel)]; kernel_rfl) | (rw [if_neg (by decide +kernel)]; exact ⟨rfl, rfl⟩))
    (fun os started H enc _ => stateAppend_lifted os started H enc)
#print axioms stateAppend_holds
end Go.Proofs.Ytjijkfehieokbaa
