/- slices.Clone of keys; a row of keys loses its last key. -/
import Derived.Test.YtenjjiilcdgimaaDgF
namespace Go.Proofs.Ytenjjiilcdgimaa
open Go.RowKit Go.ChangeMaps Go.MapKept Go.Shelf
set_option linter.unusedVariables false
set_option linter.unusedSimpArgs false
theorem OwnK.cells {w : World} {B : Nat} {ad : Addr} {l : List I3} {n cap : Nat} (h : OwnK w B (.slice (some ad) n cap) l) : n = l.length ∧ ∃ g, ad = ⟨g, 0, none⟩ ∧ ∀ j u, (kCells l)[j]? = some u → w.cell? ⟨g, j, none⟩ = some u := by
  rcases h.2 with ⟨hv, _⟩ | ⟨g, cap', cur', hv, hge, hh, h3, h4, h5, h6⟩
  · cases hv
  · cases hv
    refine ⟨rfl, g, rfl, fun j u hj => ?_⟩
    have := World.ownsRow.cells h (g := g) rfl j u hj
    rwa [Addr.add_lit, Nat.zero_add] at this
theorem OwnK.bound {w : World} {B : Nat} {a : Option Addr} {l : List I3} {n cap : Nat} (h : OwnK w B (.slice a n cap) l) : n = l.length ∧ l.length ≤ cap ∧ cap ≤ maxLen := by
  rcases h.2 with ⟨hv, hx⟩ | ⟨g, cap', cur', hv, hge, hh, h3, h4, h5, h6⟩
  · cases hv
    exact ⟨hx.symm, by omega, Nat.zero_le _⟩
  · cases hv
    exact ⟨rfl, by omega, by omega⟩
set_option maxHeartbeats 1000000 in
/-- slices.Clone of keys -/
theorem keysCloneK (w : World) (B : Nat) (v : Value) (l : List I3) (h : OwnK w B v l) (hl : l.length ≤ 1000) :
    Calls Try.prog 27 #[v] w fun e w' => ∃ v', e = .returned v' ∧ OwnK w' w.heap.size v' l ∧ Chg [] w w' := by
  obtain ⟨a, cap, rfl⟩ := ownsRow_shape h
  cases a with
  | none =>
    have h0 : l = [] := by
      rcases h.2 with ⟨hv, hx⟩ | ⟨g, cap', cur', hv, _⟩
      · exact List.eq_nil_of_length_eq_zero hx
      · cases hv
    subst h0
    have hnil := fun w : World => Lib.run_eql_slice_nil (P := Try.prog) w 26 24 none 0 cap 0 0 Try.underlying26
    clear h
    go_enter Try.func27, Try.ntmps27
    go_wp2_with fail
    go_ret
    exact ⟨_, rfl, OwnK.nil _ _, Chg.refl _ _⟩
  | some ad =>
    obtain ⟨i0, hi, hz0, hz1, hz2⟩ := info_parts Try.infoK
    have hnil := fun w : World => Lib.run_eql_slice_nil (P := Try.prog) w 26 24 (some ad) l.length cap 0 0 Try.underlying26
    obtain ⟨_, h1, h2⟩ := h.bound
    obtain ⟨_, g, rfl, hc⟩ := h.cells
    have hcs : ∀ j u, (kCells l)[j]? = some u → (w.alloc (.cells #[] 24)).cell? ((⟨g, 0, none⟩ : Addr).add j) = some u := by
      intro j u hu
      have h1 := hc j u hu
      rw [Addr.add_lit, Nat.zero_add, World.cell?_alloc_past _ _ _ (lt_of_cell h1), h1]
    have Hcs := Lib.hid hcs
    have hlc := kCells_len l
    clear hcs hc h
    go_enter Try.func27, Try.ntmps27
    go_wp2_with (at_builtin; refine wpList_append_own _ rfl _ _ 26 rfl w.heap.size 24 i0 (.agg #[.int .i64 0, .int .i64 0, .int .i64 0]) 3 24 Try.underlying26 hi hz0 hz1 hz2 rfl (by decide) (.slice (some ⟨w.heap.size, 0, none⟩) 0 0) 0 [] rfl (World.ownsRow_made w #[] 0 (Nat.le_refl _) (Nat.zero_le _) rfl) ⟨g, 0, none⟩ l.length cap (kCells l) rfl hlc Hcs.out (kCells_oneCell l) (by unfold maxLen; omega) (by omega) (by simp) ?_; intro v' w1 hown hgr _)
    go_ret
    simp only [Nat.zero_add, List.nil_append] at hown
    exact ⟨v', rfl, hown, ((Chg.refl [] w).alloc _).grown hgr (by simp [Value.ownBlock])⟩
/-- the last key is taken off -/
theorem OwnK.pop {w : World} {B : Nat} {a : Option Addr} {n cap : Nat} {l : List I3} {x : I3} (h : OwnK w B (.slice a n cap) (l ++ [x])) : n = l.length + 1 ∧ OwnK w B (.slice a l.length cap) l ∧ ∃ g, a = some ⟨g, 0, none⟩ ∧ w.cell? ⟨g, l.length * 3, none⟩ = some (.int .i64 x.1) ∧ w.cell? ⟨g, l.length * 3 + 1, none⟩ = some (.int .i64 x.2.1) ∧ w.cell? ⟨g, l.length * 3 + 2, none⟩ = some (.int .i64 x.2.2) := by
  have hb := h.bound
  cases a with
  | none => rcases h.2 with ⟨_, hx⟩ | ⟨g, cap', cur', hv, _⟩ <;> first | (simp at hx; done) | cases hv
  | some ad =>
    obtain ⟨hn, g, rfl, hc⟩ := h.cells
    have hlen : (l ++ [x]).length = l.length + 1 := by simp
    obtain ⟨e0, e1, e2⟩ := kCells_get (l ++ [x]) l.length (by simp)
    have hx : (l ++ [x])[l.length]'(by simp) = x := by simp
    rw [hx] at e0 e1 e2
    refine ⟨by omega, ?_, g, rfl, hc _ _ e0, hc _ _ e1, hc _ _ e2⟩
    rcases h.2 with ⟨hv, _⟩ | ⟨g', cap', cur', hv, hge, hh, h3, h4, h5, h6⟩
    · cases hv
    · cases hv
      refine ⟨?_, .inr ⟨g, cap, cur', rfl, hge, hh, by omega, h4, h5, ?_⟩⟩
      · exact kCells_len l
      · have h6' := h6
        rw [kCells_append, hlen] at h6'
        have := congrArg (List.take (l.length * 3)) h6'
        rw [List.take_take, Nat.min_eq_left (by omega), List.take_left' (kCells_len l)] at this
        exact this
end Go.Proofs.Ytenjjiilcdgimaa
