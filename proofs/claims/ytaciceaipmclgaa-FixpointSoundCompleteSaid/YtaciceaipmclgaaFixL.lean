/- slices.Clone of ints. -/
import Derived.Test.YtaciceaipmclgaaFixK
import Derived.Deep.AppendLies
import Derived.Maps.AppendAt
namespace Go.Proofs.Ytaciceaipmclgaa
open Go.RowKit
set_option linter.unusedVariables false
theorem slf_of_own {w : World} {base : Nat} {v : Value} {n : Nat} {f : Nat → Value} (h : w.ownsRow base 3 1 v n ((List.range n).map f)) (hn : n ≤ 17592186044416) : SlF (fun g => base ≤ g ∧ g < w.heap.size) w v n f := by
  have h' := h
  rcases h.2 with ⟨rfl, h0⟩ | ⟨g, cap, cur, rfl, h1, h2, h3, h4, h5, h6⟩
  · exact ⟨none, 0, by rw [h0], by omega, by unfold maxLen; omega, fun h => by omega⟩
  · refine ⟨some ⟨g, 0, none⟩, cap, rfl, h3, by unfold maxLen; omega, fun _ => ⟨g, 0, rfl, ⟨h1, lt_of_obj h2⟩, fun j hj => ?_⟩⟩
    have := h'.cells (g := g) rfl j (f j) (by simp [hj])
    rw [Addr.add_lit] at this
    exact this
set_option maxHeartbeats 1000000 in
theorem sClone_any (p : Nat → Prop) (w : World) (v : Value) (n : Nat) (f : Nat → Value) (h : SlF p w v n f) (h1 : ∀ j, j < n → (f j).oneCell' = true) (hn : n ≤ 17592186044416) :
    Calls Try.prog 22 #[v] w fun e w' => ∃ v', e = .returned v' ∧ SlF (fun g => w.heap.size ≤ g ∧ g < w'.heap.size) w' v' n f ∧ Chg [] w w' := by
  obtain ⟨i0, hi0, hz0, hz1, hz2⟩ := info_parts Try.infoInt
  have Hi0 := Lib.hid hi0
  have Hz0 := Lib.hid hz0
  have Hz1 := Lib.hid hz1
  have Hz2 := Lib.hid hz2
  obtain ⟨a, cap, rfl, hm, hc, h3⟩ := h
  have H1 := Lib.hid h1
  have H3 := Lib.hid h3
  clear hi0 hz0 hz1 hz2 h1 h3
  have hnil : ∀ W : World, (binOp .eql 23 (.slice a n cap) (.slice none 0 0)).run Try.prog W = .ok (.bool a.isNone) W := fun W => Lib.run_eql_slice_nil W _ _ _ _ _ _ _ Try.underlying23
  cases a with
  | none =>
    obtain rfl : n = 0 := by
      rcases Nat.eq_zero_or_pos n with h | h
      · exact h
      · obtain ⟨g, off, he, _⟩ := H3.out h
        cases he
    go_enter Try.func22, Try.ntmps22
    have hnil' : ∀ W : World, (binOp .eql 23 (.slice none 0 cap) (.slice none 0 0)).run Try.prog W = .ok (.bool true) W := hnil
    clear hnil
    go_wp2
    go_ret
    exact ⟨_, rfl, ⟨none, 0, rfl, by omega, by unfold maxLen; omega, fun h => by omega⟩, Chg.refl _ _⟩
  | some ad =>
    have hown : (w.alloc (.cells #[] 3)).ownsRow w.heap.size 3 1 (.slice (some ⟨w.heap.size, 0, none⟩) 0 0) 0 [] := ⟨rfl, .inr ⟨w.heap.size, 0, #[], rfl, Nat.le_refl _, heap_at _ _ _ rfl, Nat.le_refl _, by unfold maxLen; omega, rfl, rfl⟩⟩
    have hnews : ∀ j u, ((List.range n).map f)[j]? = some u → (w.alloc (.cells #[] 3)).cell? (ad.add j) = some u := by
      intro j u hj
      have hjn : j < n := by
        have := (List.getElem?_eq_some_iff.1 hj).1
        simpa using this
      obtain ⟨g, off, he, _, hcell⟩ := H3.out (by omega)
      simp only [Option.some.injEq] at he
      subst he
      have hfu : f j = u := by simpa [hjn] using hj
      rw [Addr.add_lit, ← hfu]
      exact (((Chg.refl [] w).alloc _).cell (lt_of_cell (hcell j hjn)) (by simp)).trans (hcell j hjn)
    have hone : ∀ u ∈ (List.range n).map f, u.oneCell' = true := by
      intro u hu
      obtain ⟨j, hj, rfl⟩ := List.mem_map.1 hu
      exact H1.out j (List.mem_range.1 hj)
    have Hown := Lib.hid hown
    have Hnews := Lib.hid hnews
    have Hone := Lib.hid hone
    clear hown hnews hone
    unfold maxLen at hc
    go_enter Try.func22, Try.ntmps22
    go_wp2_with (at_builtin; refine wpList_append_own_at _ rfl _ _ 23 rfl w.heap.size 3 i0 (.int .i64 0) 1 8 Try.underlying23 Hi0.out Hz0.out Hz1.out Hz2.out rfl (by decide) (.slice (some ⟨w.heap.size, 0, none⟩) 0 0) 0 [] rfl Hown.out ad n cap ((List.range n).map f) rfl (by simp) Hnews.out Hone.out (by unfold maxLen; omega) (by omega) (by simp) ?_; intro v8 w8 hown8 hgr8 hnil8 hat8; have Hown8 := Lib.hid hown8; have Hgr8 := Lib.hid hgr8; clear hown8 hgr8 hnil8 hat8)
    go_ret
    refine ⟨v8, rfl, slf_of_own (by have := Hown8.out; rw [Nat.zero_add, List.nil_append] at this; exact this) hn, ((Chg.refl [] w).alloc _).grown Hgr8.out (fun k h => Or.inr ?_)⟩
    simp only [Value.ownBlock, Option.some.injEq] at h
    omega
end Go.Proofs.Ytaciceaipmclgaa
