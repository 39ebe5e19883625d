/- A list of rules cloned, and one more appended. -/
import Derived.Test.YtaciceaipmclgaaFxJ
import Derived.Test.YtaciceaipmclgaaFixM
import Derived.Laws.AppendOwn
namespace Go.Proofs.Ytaciceaipmclgaa
open Go.RowKit
set_option linter.unusedVariables false
/-- the values in a list of rules -/
def rvOf (w : World) (g off : Nat) (l : List Rule) : List RV := (List.range l.length).map fun k => ((l.getD k (0, [])).1, (w.cell? ⟨g, off + k * 2 + 1, none⟩).getD default)
theorem rvOf_len (w : World) (g off : Nat) (l : List Rule) : (rvOf w g off l).length = l.length := by simp [rvOf]
theorem rvOf_get (w : World) (g off : Nat) (l : List Rule) (k : Nat) (hk : k < l.length) : (rvOf w g off l).getD k dRV = ((l.getD k (0, [])).1, (w.cell? ⟨g, off + k * 2 + 1, none⟩).getD default) := by
  rw [List.getD_eq_getElem?_getD]; unfold rvOf; rw [List.getElem?_map, List.getElem?_range hk]; rfl
theorem rvOf_news {p : Nat → Prop} {w : World} {g off cap : Nat} {l : List Rule} (h : RuleL p w (.slice (some ⟨g, off, none⟩) l.length cap) l) :
    (∀ j u, (flatP (rvOf w g off l))[j]? = some u → w.cell? ((⟨g, off, none⟩ : Addr).add j) = some u) ∧ (∀ u ∈ flatP (rvOf w g off l), u.oneCell' = true) ∧ ∀ k, k < l.length → Ints p w ((rvOf w g off l).getD k dRV).2 (l.getD k (0, [])).2 := by
  have hk : ∀ k, k < l.length → ((rvOf w g off l).getD k dRV).1 = (l.getD k (0, [])).1 ∧ w.cell? ⟨g, off + k * 2, none⟩ = some (.int .i64 (l.getD k (0, [])).1) ∧ w.cell? ⟨g, off + k * 2 + 1, none⟩ = some ((rvOf w g off l).getD k dRV).2 ∧ Ints p w ((rvOf w g off l).getD k dRV).2 (l.getD k (0, [])).2 := fun k hk => by
    obtain ⟨g', off', u, he, e1, e2, e3⟩ := h.at k hk
    cases he
    rw [rvOf_get _ _ _ _ _ hk]
    simp only [e2, Option.getD_some]
    exact ⟨trivial, e1, trivial, e3⟩
  have hdiv : ∀ j, j < (flatP (rvOf w g off l)).length → ∃ k, k < l.length ∧ (j = k * 2 ∨ j = k * 2 + 1) := fun j hj => by
    rw [flatP_len, rvOf_len] at hj
    exact ⟨j / 2, by omega, by omega⟩
  have hcell : ∀ j u, (flatP (rvOf w g off l))[j]? = some u → w.cell? ((⟨g, off, none⟩ : Addr).add j) = some u ∧ u.oneCell' = true := fun j u hu => by
    obtain ⟨k, hkl, hj⟩ := hdiv j (List.getElem?_eq_some_iff.1 hu).1
    obtain ⟨f1, f2⟩ := flatP_get (rvOf w g off l) k (by rw [rvOf_len]; exact hkl)
    obtain ⟨h1, h2, h3, h4⟩ := hk k hkl
    rw [Addr.add_lit]
    rcases hj with rfl | rfl
    · rw [f1] at hu; cases hu
      rw [h1]
      exact ⟨h2, rfl⟩
    · rw [f2] at hu; cases hu
      refine ⟨by rw [← Nat.add_assoc]; exact h3, ?_⟩
      obtain ⟨a, c, he⟩ := SlF.shape h4
      rw [he]; rfl
  refine ⟨fun j u hu => (hcell j u hu).1, fun u hu => ?_, fun k hkl => (hk k hkl).2.2.2⟩
  obtain ⟨j, hj, rfl⟩ := List.getElem_of_mem hu
  exact (hcell j _ (List.getElem?_eq_getElem hj)).2
def ClonePost (p : Nat → Prop) (l : List Rule) (w : World) (o : Ending) (w' : World) : Prop :=
  ∃ v us, o = .returned v ∧ us.length = l.length ∧ w'.ownsRow w.heap.size 31 2 v l.length (flatP us) ∧ (∀ k, k < l.length → (us.getD k dRV).1 = (l.getD k (0, [])).1 ∧ Ints p w' (us.getD k dRV).2 (l.getD k (0, [])).2) ∧ Chg [] w w'
set_option maxHeartbeats 1000000 in
theorem cloneR_any (p : Nat → Prop) (w : World) (u : Value) (l : List Rule) (hl : RuleL p w u l) (h20 : l.length ≤ 20) :
    Calls Try.prog 17 #[u] w (ClonePost p l w) := by
  obtain ⟨i0, hi, hz0, hz1, hz2⟩ := info_parts Try.infoRule
  obtain ⟨a, cap, rfl, _⟩ := id hl
  by_cases hn : l.length = 0
  · obtain rfl : l = [] := List.eq_nil_of_length_eq_zero hn
    rcases a with _ | ad
    · have hr : ∀ ty, (Builtin.append_ #[39, 39] ty #[.slice none 0 0, .slice none 0 cap]).run Try.prog w = .ok (.slice none 0 0) w := fun ty => by
        simp [Builtin.append_, run_underlying Try.underlying39, sizeOf, typeInfo, hi, Builtin.lenOf, Builtin.firstCells]
      clear hl
      go_enter Try.func17, Try.ntmps17
      go_wp2_with (at_builtin; refine wpList_append_run rfl _ _ 39 rfl (.slice none 0 0) (.slice none 0 cap) (.slice none 0 0) _ rfl rfl (hr _) ?_)
      go_ret
      exact ⟨_, [], rfl, rfl, World.ownsRow_nil _ _ _ _, fun k hk => by simp at hk, Chg.refl _ _⟩
    · clear hl
      go_enter Try.func17, Try.ntmps17
      go_wp2_with (at_builtin; refine wpList_append_own _ rfl _ _ 39 rfl w.heap.size 31 i0 (.agg #[.int .i64 0, .slice none 0 0]) 2 32 Try.underlying39 hi hz0 hz1 hz2 rfl (by decide) (.slice none 0 0) 0 [] rfl (World.ownsRow_nil _ _ _ _) ad 0 cap [] rfl rfl (fun j u h => by simp at h) (by simp) (by unfold maxLen; omega) (by omega) (Nat.le_refl _) ?_; intro v' w1 hown hgr _)
      go_ret
      exact ⟨v', [], rfl, rfl, by simpa [flatP] using hown, fun k hk => by simp at hk, (Chg.refl [] w).grown hgr (by simp [Value.ownBlock])⟩
  · obtain ⟨g, off, u0, hgo, _⟩ := hl.at 0 (by omega)
    subst hgo
    obtain ⟨hnews, hone, hints⟩ := rvOf_news hl
    have hlen : (flatP (rvOf w g off l)).length = l.length * 2 := by rw [flatP_len, rvOf_len]
    have Hnews := Lib.hid hnews
    have Hone := Lib.hid hone
    have Hints := Lib.hid hints
    have Hlen := Lib.hid hlen
    clear hnews hone hints hlen hl
    go_enter Try.func17, Try.ntmps17
    go_wp2_with (at_builtin; refine wpList_append_own _ rfl _ _ 39 rfl w.heap.size 31 i0 (.agg #[.int .i64 0, .slice none 0 0]) 2 32 Try.underlying39 hi hz0 hz1 hz2 rfl (by decide) (.slice none 0 0) 0 [] rfl (World.ownsRow_nil _ _ _ _) ⟨g, off, none⟩ l.length cap (flatP (rvOf w g off l)) rfl Hlen.out Hnews.out Hone.out (by unfold maxLen; omega) (by omega) (Nat.le_refl _) ?_; intro v' w1 hown hgr _)
    go_ret
    have hc : Chg [] w w1 := (Chg.refl [] w).grown hgr (by simp [Value.ownBlock])
    exact ⟨v', rvOf w g off l, rfl, rvOf_len _ _ _ _, by simpa using hown, fun k hk => ⟨by rw [rvOf_get _ _ _ _ _ hk], (Hints.out k hk).kept hc (by simp)⟩, hc⟩
/-- the list with one more rule, read -/
theorem RuleL.grown {p q : Nat → Prop} {w : World} {base : Nat} {v u : Value} {l : List Rule} {us : List RV} {r : Rule} (hus : us.length = l.length) (h20 : l.length ≤ 20) (hown : w.ownsRow base 31 2 v (l.length + 1) (flatP us ++ [.int .i64 r.1, u]))
    (hk : ∀ k, k < l.length → (us.getD k dRV).1 = (l.getD k (0, [])).1 ∧ Ints p w (us.getD k dRV).2 (l.getD k (0, [])).2) (hu : Ints p w u r.2) (hpq : ∀ g, p g → q g) (hb : ∀ g, base ≤ g → g < w.heap.size → q g) : RuleL q w v (l ++ [r]) := by
  rcases hown.2 with ⟨_, h0⟩ | ⟨g, cap, cur, rfl, h1, h2, h3, h4, h5, h6⟩
  · omega
  · rw [← flatP_append us (r.1, u)] at hown
    refine ⟨_, cap, by rw [List.length_append]; rfl, by rw [List.length_append]; exact h3, by rw [List.length_append, List.length_singleton]; unfold maxLen; omega, fun _ => ⟨g, 0, rfl, hb g h1 (lt_of_obj h2), fun k hkl => ?_⟩⟩
    rw [List.length_append, List.length_singleton] at hkl
    obtain ⟨f1, f2⟩ := flatP_get (us ++ [(r.1, u)]) k (by rw [List.length_append, List.length_singleton]; omega)
    have c1 := hown.cells (g := g) rfl (k * 2) _ f1
    have c2 := hown.cells (g := g) rfl (k * 2 + 1) _ f2
    rw [Addr.add_lit] at c1 c2
    rw [← Nat.add_assoc] at c2
    by_cases hkn : k < l.length
    · have e1 : (us ++ [(r.1, u)]).getD k dRV = us.getD k dRV := by rw [List.getD_eq_getElem?_getD, List.getElem?_append_left (by omega), ← List.getD_eq_getElem?_getD]
      have e2 : (l ++ [r]).getD k (0, []) = l.getD k (0, []) := by rw [List.getD_eq_getElem?_getD, List.getElem?_append_left hkn, ← List.getD_eq_getElem?_getD]
      rw [e1] at c1 c2
      rw [e2]
      rw [(hk k hkn).1] at c1
      exact ⟨c1, _, c2, (hk k hkn).2.imp hpq⟩
    · obtain rfl : k = l.length := by omega
      have e1 : (us ++ [(r.1, u)]).getD l.length dRV = (r.1, u) := by rw [← hus]; simp [List.getD_eq_getElem?_getD]
      have e2 : (l ++ [r]).getD l.length (0, []) = r := by simp [List.getD_eq_getElem?_getD]
      rw [e1] at c1 c2
      rw [e2]
      exact ⟨c1, _, c2, hu.imp hpq⟩
theorem ext_app {p : Nat → Prop} {wr wx w12 : World} {l : List Rule} {r : Rule} {us : List RV} {u v11 v12 : Value} {ge : Nat} (hc : Chg [] wr wx) (hown : wx.ownsRow wr.heap.size 31 2 v11 l.length (flatP us)) (hus : us.length = l.length) (h20 : l.length ≤ 20)
    (hk : ∀ k, k < l.length → (us.getD k dRV).1 = (l.getD k (0, [])).1 ∧ Ints p wx (us.getD k dRV).2 (l.getD k (0, [])).2) (hu : Ints p wx u r.2) (hp : ∀ g, p g → g < ge) (hge : ge < wr.heap.size) (hgr : wx.grownBy w12 v11.ownBlock)
    (hown12 : w12.ownsRow wr.heap.size 31 2 v12 (l.length + 1) (flatP us ++ [.int .i64 r.1, u])) : Chg [] wr w12 ∧ RuleL (fun g => g ≠ ge) w12 v12 (l ++ [r]) := by
  have hlow : ∀ g ∈ v11.ownBlock.toList, wr.heap.size ≤ g := fun g hg => (ownsRow_lt hown (by simpa using hg)).1
  have h1 : Chg v11.ownBlock.toList wx w12 := (Chg.refl _ wx).grown hgr (fun k e => Or.inl (by simp [e]))
  have hnp : ∀ k ∈ v11.ownBlock.toList, ¬ p k := fun k hk hpk => by have := hlow k hk; have := hp k hpk; omega
  exact ⟨hc.comp h1 (fun k hk => Or.inr (hlow k hk)), RuleL.grown hus h20 hown12 (fun k hkl => ⟨(hk k hkl).1, (hk k hkl).2.kept h1 hnp⟩) (hu.kept h1 hnp) (fun g hg => by have := hp g hg; omega) (fun g hg _ => by omega)⟩
end Go.Proofs.Ytaciceaipmclgaa
