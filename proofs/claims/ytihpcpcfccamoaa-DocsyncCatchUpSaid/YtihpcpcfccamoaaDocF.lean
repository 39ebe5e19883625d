/- slices.Clone at edits. -/
import Derived.Test.YtihpcpcfccamoaaDocE
namespace Go.Proofs.Ytihpcpcfccamoaa
open Go.RowKit
set_option linter.unusedVariables false
set_option linter.unusedSimpArgs false
def flatE (ks : List Edit) : List Value := ks.flatMap fun k => [.int .i64 k.s, .int .i64 k.e, .string k.t]
theorem flatE_len (ks : List Edit) : (flatE ks).length = ks.length * 3 := by
  induction ks with
  | nil => rfl
  | cons k r ih =>
    show ([_, _, _] ++ flatE r).length = _
    rw [List.length_append, ih]
    simp only [List.length_cons, List.length_nil]
    omega
theorem flatE_get (ks : List Edit) : ∀ j (h : j < ks.length), (flatE ks)[j * 3]? = some (.int .i64 ks[j].s) ∧ (flatE ks)[j * 3 + 1]? = some (.int .i64 ks[j].e) ∧ (flatE ks)[j * 3 + 2]? = some (.string ks[j].t) := by
  induction ks with
  | nil => intro j h; simp at h
  | cons k r ih =>
    intro j h
    have e : flatE (k :: r) = .int .i64 k.s :: .int .i64 k.e :: .string k.t :: flatE r := rfl
    rw [e]
    cases j with
    | zero => exact ⟨rfl, rfl, rfl⟩
    | succ j =>
      have h' := ih j (by simpa using h)
      have e1 : (j + 1) * 3 = j * 3 + 1 + 1 + 1 := by omega
      rw [e1]
      simp only [List.getElem?_cons_succ, List.getElem_cons_succ]
      exact h'
theorem flatE_append (ks : List Edit) (k : Edit) : flatE (ks ++ [k]) = flatE ks ++ [.int .i64 k.s, .int .i64 k.e, .string k.t] := by simp [flatE]
theorem flatE_cell {ks : List Edit} {w : World} {g off : Nat} (h : ∀ j (h : j < ks.length), rdE w ⟨g, off + j * 3, none⟩ ks[j]) : ∀ j u, (flatE ks)[j]? = some u → w.cell? ⟨g, off + j, none⟩ = some u := by
  intro j u hu
  have hj : j < ks.length * 3 := by
    have := (List.getElem?_eq_some_iff.1 hu).1
    rwa [flatE_len] at this
  obtain ⟨q, r, hr, rfl⟩ : ∃ q r, r < 3 ∧ j = q * 3 + r := ⟨j / 3, j % 3, by omega, by omega⟩
  have hq : q < ks.length := by omega
  obtain ⟨f0, f1, f2⟩ := flatE_get ks q hq
  obtain ⟨r0, r1, r2⟩ := h q hq
  rcases (by omega : r = 0 ∨ r = 1 ∨ r = 2) with rfl | rfl | rfl
  · rw [Nat.add_zero, f0] at hu; cases hu
    exact r0
  · rw [f1] at hu; cases hu
    exact r1
  · rw [f2] at hu; cases hu
    exact r2
/-- a row of three-field structs of the call's own, read -/
theorem eds_of_row {E : TypeId} {w : World} {base : Nat} {v : Value} {n : Nat} {ks : List Edit} (h : w.ownsRow base E 3 v n (flatE ks)) (hn : n = ks.length) : Eds (fun g => base ≤ g ∧ g < w.heap.size) w v ks := by
  subst hn
  have h' := h
  rcases h.2 with ⟨rfl, h0⟩ | ⟨g, cap, cur, rfl, h1, h2, h3, h4, h5, h6⟩
  · have : ks = [] := List.eq_nil_of_length_eq_zero h0
    subst this
    exact SlR.nil _ _ _ _
  · refine ⟨_, cap, rfl, h3, h4, fun _ => ⟨g, 0, rfl, ⟨h1, lt_of_obj h2⟩, fun j hj => ?_⟩⟩
    obtain ⟨f0, f1, f2⟩ := flatE_get ks j hj
    have c0 := h'.cells (g := g) rfl _ _ f0
    have c1 := h'.cells (g := g) rfl _ _ f1
    have c2 := h'.cells (g := g) rfl _ _ f2
    rw [Addr.add_lit] at c0 c1 c2
    exact ⟨c0, c1, c2⟩
set_option maxHeartbeats 1000000 in
theorem edClone_any (p : Nat → Prop) (w : World) (v : Value) (ks : List Edit) (h : Eds p w v ks) (hl : ks.length ≤ 1000) :
    Calls Try.prog 24 #[v] w fun e w' => ∃ v', e = .returned v' ∧ Eds (fun g => w.heap.size ≤ g ∧ g < w'.heap.size) w' v' ks ∧ Chg [] w w' := by
  obtain ⟨a, cap, rfl, h1, h2, h3⟩ := h
  cases a with
  | none =>
    have h0 : ks = [] := by
      rcases ks with _ | ⟨k, r⟩
      · rfl
      · obtain ⟨g, off, e, _⟩ := h3 (by simp)
        cases e
    subst h0
    have hnil := fun w : World => Lib.run_eql_slice_nil (P := Try.prog) w 42 56 none 0 cap 0 0 Try.underlying42
    clear h1 h2 h3
    go_enter Try.func24, Try.ntmps24
    go_wp2_with fail
    go_ret
    exact ⟨_, rfl, SlR.nil _ _ _ _, Chg.refl _ _⟩
  | some ad =>
    obtain ⟨i0, hi, hz0, hz1, hz2⟩ := info_parts (show (Try.prog.info? 56).map (fun i => (i.zero, i.size, i.bytes)) = some (some (.agg #[.int .i64 0, .int .i64 0, .string ⟨#[]⟩]), 3, 32) by kernel_rfl)
    have hnil := fun w : World => Lib.run_eql_slice_nil (P := Try.prog) w 42 56 (some ad) ks.length cap 0 0 Try.underlying42
    have hcs : ∀ j u, (flatE ks)[j]? = some u → (w.alloc (.cells #[] 56)).cell? (ad.add j) = some u := by
      intro j u hu
      have hpos : 0 < ks.length := by
        rcases ks with _ | ⟨k, r⟩
        · simp [flatE] at hu
        · simp
      obtain ⟨g, off, e, _, hc⟩ := h3 hpos
      cases e
      have h1 := flatE_cell hc j u hu
      rw [Addr.add_lit, World.cell?_alloc_past _ _ _ (lt_of_cell h1), h1]
    have h1c : ∀ u ∈ flatE ks, u.oneCell' = true := by
      intro u hu
      unfold flatE at hu
      obtain ⟨k, _, hu⟩ := List.mem_flatMap.1 hu
      simp only [List.mem_cons, List.not_mem_nil, or_false] at hu
      rcases hu with rfl | rfl | rfl <;> rfl
    have Hcs := Lib.hid hcs
    have H1c := Lib.hid h1c
    clear hcs h1c h3
    go_enter Try.func24, Try.ntmps24
    go_wp2_with (at_builtin; refine wpList_append_own _ rfl _ _ 42 rfl w.heap.size 56 i0 (.agg #[.int .i64 0, .int .i64 0, .string ⟨#[]⟩]) 3 32 Try.underlying42 hi hz0 hz1 hz2 rfl (by decide) (.slice (some ⟨w.heap.size, 0, none⟩) 0 0) 0 [] rfl (World.ownsRow_made w #[] 0 (Nat.le_refl _) (Nat.zero_le _) rfl) ad ks.length cap (flatE ks) rfl (flatE_len ks) Hcs.out H1c.out (by unfold maxLen; omega) (by omega) (by simp) ?_; intro v' w1 hown hgr _)
    go_ret
    simp only [Nat.zero_add, List.nil_append] at hown
    exact ⟨v', rfl, eds_of_row hown rfl, ((Chg.refl [] w).alloc _).grown hgr (by simp [Value.ownBlock])⟩
end Go.Proofs.Ytihpcpcfccamoaa
