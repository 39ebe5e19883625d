/- The updates that Edit collects. -/
import Derived.Test.YtihpcpcfccamoaaDocL
namespace Go.Proofs.Ytihpcpcfccamoaa
open Go.RowKit
set_option linter.unusedVariables false
set_option linter.unusedSimpArgs false
def flatU (c : Int) (nm : ByteArray) (ver : Int) (ups : List (Int × Value)) : List Value := ups.flatMap fun x => [.int .i64 x.1, .int .i64 c, .string nm, .int .i64 ver, x.2]
theorem flatU_len (c : Int) (nm : ByteArray) (ver : Int) (ups : List (Int × Value)) : (flatU c nm ver ups).length = ups.length * 5 := by
  induction ups with
  | nil => rfl
  | cons k r ih =>
    show ([_, _, _, _, _] ++ flatU c nm ver r).length = _
    rw [List.length_append, ih]
    simp only [List.length_cons, List.length_nil]
    omega
theorem flatU_snoc (c : Int) (nm : ByteArray) (ver : Int) (ups : List (Int × Value)) (t : Int) (u : Value) : flatU c nm ver (ups ++ [(t, u)]) = flatU c nm ver ups ++ [.int .i64 t, .int .i64 c, .string nm, .int .i64 ver, u] := by simp [flatU]
theorem flatU_get (c : Int) (nm : ByteArray) (ver : Int) (ups : List (Int × Value)) : ∀ j (h : j < ups.length), (flatU c nm ver ups)[j * 5]? = some (.int .i64 ups[j].1) ∧ (flatU c nm ver ups)[j * 5 + 1]? = some (.int .i64 c) ∧ (flatU c nm ver ups)[j * 5 + 2]? = some (.string nm) ∧
    (flatU c nm ver ups)[j * 5 + 3]? = some (.int .i64 ver) ∧ (flatU c nm ver ups)[j * 5 + 4]? = some ups[j].2 := by
  induction ups with
  | nil => intro j h; simp at h
  | cons k r ih =>
    intro j h
    have e : flatU c nm ver (k :: r) = .int .i64 k.1 :: .int .i64 c :: .string nm :: .int .i64 ver :: k.2 :: flatU c nm ver r := rfl
    rw [e]
    cases j with
    | zero => exact ⟨rfl, rfl, rfl, rfl, rfl⟩
    | succ j =>
      have h' := ih j (by simpa using h)
      have e1 : (j + 1) * 5 = j * 5 + 1 + 1 + 1 + 1 + 1 := by omega
      rw [e1]
      simp only [List.getElem?_cons_succ, List.getElem_cons_succ]
      exact h'
/-- the updates so far: a row of the call's own -/
def UpI (W wr : World) (c : Int) (nm : ByteArray) (ver : Int) (E : List Edit) (uv : Value) (ups : List (Int × Value)) : Prop :=
  wr.ownsRow W.heap.size 48 5 uv ups.length (flatU c nm ver ups) ∧ ∃ qe : Nat → Prop, (∀ g, qe g → W.heap.size ≤ g ∧ g < wr.heap.size ∧ uv.ownBlock ≠ some g) ∧ ∀ x ∈ ups, Eds qe wr x.2 E
theorem UpI.none (W wr : World) (c : Int) (nm : ByteArray) (ver : Int) (E : List Edit) : UpI W wr c nm ver E (.slice none 0 0) [] := ⟨World.ownsRow_nil _ _ _ _, fun _ => False, fun _ h => h.elim, fun x hx => by simp at hx⟩
theorem UpI.same {W wr w' : World} {c : Int} {nm : ByteArray} {ver : Int} {E : List Edit} {uv : Value} {ups : List (Int × Value)} (h : UpI W wr c nm ver E uv ups) (hc : Chg [] wr w') : UpI W w' c nm ver E uv ups := by
  obtain ⟨h1, qe, h2, h3⟩ := h
  exact ⟨ownsRow_kept h1 fun g _ hl => hc.block g hl (by simp), qe, fun g hg => ⟨(h2 g hg).1, Nat.lt_of_lt_of_le (h2 g hg).2.1 hc.size, (h2 g hg).2.2⟩, fun x hx => (h3 x hx).same hc⟩
theorem UpI.step {W wr wB w4 : World} {c : Int} {nm : ByteArray} {ver : Int} {E : List Edit} {uv v' u : Value} {ups : List (Int × Value)} {t : Int} (h : UpI W wr c nm ver E uv ups) (hW : W.heap.size ≤ wr.heap.size) (hcB : Chg [] wr wB) (hu : Eds (fun g => wr.heap.size ≤ g ∧ g < wB.heap.size) wB u E)
    (hc4 : ChgP (fun k => uv.ownBlock = some k) wB w4) (hown : w4.ownsRow W.heap.size 48 5 v' (ups.length + 1) (flatU c nm ver ups ++ [.int .i64 t, .int .i64 c, .string nm, .int .i64 ver, u])) (hg : ∀ k, v'.ownBlock = some k → uv.ownBlock = some k ∨ wB.heap.size ≤ k) :
    UpI W w4 c nm ver E v' (ups ++ [(t, u)]) := by
  obtain ⟨h1, qe, h2, h3⟩ := h
  have hs := hcB.size
  have hs4 := hc4.size
  refine ⟨by rw [flatU_snoc, List.length_append]; exact hown, fun g => qe g ∨ (wr.heap.size ≤ g ∧ g < wB.heap.size), ?_, ?_⟩
  · rintro g (hq | hq)
    · obtain ⟨a1, a2, a3⟩ := h2 g hq
      exact ⟨a1, by omega, fun e => (hg g e).elim a3 (fun e => by omega)⟩
    · exact ⟨by omega, by omega, fun e => (hg g e).elim (fun e => by have := (h1.lt g e).2; omega) (fun e => by omega)⟩
  · intro x hx
    rcases List.mem_append.1 hx with hx | hx
    · exact (((h3 x hx).same hcB).kept hc4 fun k hk e => (h2 k hk).2.2 e).wider fun _ h => Or.inl h
    · rw [List.mem_singleton.1 hx]
      exact (hu.kept hc4 fun k hk e => by have := (h1.lt k e).2; omega).wider fun _ h => Or.inr h
theorem UpI.ups {W wr : World} {c : Int} {nm : ByteArray} {ver : Int} {E : List Edit} {uv : Value} {ups : List (Int × Value)} (h : UpI W wr c nm ver E uv ups) {lo : Nat} (hlo : lo ≤ W.heap.size) {tos : List Int} (ht : ups.map (·.1) = tos) :
    Ups (fun k => lo ≤ k ∧ k < wr.heap.size) nm c ver E wr uv tos := by
  obtain ⟨h1, qe, h2, h3⟩ := h
  subst ht
  have h' := h1
  rcases h1.2 with ⟨rfl, h0⟩ | ⟨g, cap, cur, rfl, hb, hh, hc1, hc2, _, _⟩
  · have : ups = [] := List.eq_nil_of_length_eq_zero h0
    subst this
    exact SlR.nil _ _ _ _
  · refine ⟨_, cap, by rw [List.length_map], by simpa using hc1, hc2, fun _ => ⟨g, 0, rfl, ⟨by omega, lt_of_obj hh⟩, fun j hj => ?_⟩⟩
    have hj' : j < ups.length := by simpa using hj
    obtain ⟨f0, f1, f2, f3, f4⟩ := flatU_get c nm ver ups j hj'
    have c0 := h'.cells (g := g) rfl _ _ f0
    have c1 := h'.cells (g := g) rfl _ _ f1
    have c2 := h'.cells (g := g) rfl _ _ f2
    have c3 := h'.cells (g := g) rfl _ _ f3
    have c4 := h'.cells (g := g) rfl _ _ f4
    rw [Addr.add_lit] at c0 c1 c2 c3 c4
    refine ⟨by simpa using c0, c1, c2, c3, _, c4, (h3 _ (List.getElem_mem hj')).wider fun k hk => ?_⟩
    have := h2 k hk
    omega
end Go.Proofs.Ytihpcpcfccamoaa
