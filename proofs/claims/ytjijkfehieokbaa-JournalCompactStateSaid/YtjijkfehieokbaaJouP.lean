/- R.Clone at records. -/
import Derived.Test.YtjijkfehieokbaaJouO
namespace Go.Proofs.Ytjijkfehieokbaa
open Go.RowKit Go.ChangeMaps Go.MapKept
set_option linter.unusedVariables false
set_option linter.unusedSimpArgs false
theorem recVals_at (rs : List Rec) : ∀ (j : Nat) (u : Value), (recVals rs)[j]? = some u → j < rs.length * 3 ∧ u = (if j % 3 = 0 then Value.string (rs.getD (j / 3) Rec.zero).key else if j % 3 = 1 then Value.string (rs.getD (j / 3) Rec.zero).val else Value.bool (rs.getD (j / 3) Rec.zero).del) := by
  intro j u hj
  have hlt : j < rs.length * 3 := by have := (List.getElem?_eq_some_iff.1 hj).1; rw [recVals_length] at this; exact this
  refine ⟨hlt, ?_⟩
  obtain ⟨f0, f1, f2⟩ := recVals_get rs (j / 3) (by omega)
  rcases (by omega : j % 3 = 0 ∨ j % 3 = 1 ∨ j % 3 = 2) with e | e | e
  · rw [show j / 3 * 3 = j by omega, hj] at f0
    rw [if_pos e]; exact Option.some.inj f0
  · rw [show j / 3 * 3 + 1 = j by omega, hj] at f1
    rw [if_neg (by omega), if_pos e]; exact Option.some.inj f1
  · rw [show j / 3 * 3 + 2 = j by omega, hj] at f2
    rw [if_neg (by omega), if_neg (by omega)]; exact Option.some.inj f2
set_option maxHeartbeats 1000000 in
theorem recClone_any (w : World) (v : Value) (rs : List Rec) (h : Recs w v rs) (hn : rs.length ≤ 1000) :
    Calls Try.prog 16 #[v] w fun e w' => ∃ v', e = .returned v' ∧ OwnRecs w' w.heap.size v' rs ∧ Chg [] w w' := by
  obtain ⟨i0, hi, hz0, hz1, hz2⟩ := info_parts Try.infoRec
  obtain ⟨a, cap, rfl, hml, hcells⟩ := h.shape
  by_cases h0 : rs.length = 0
  · obtain rfl : rs = [] := List.eq_nil_of_length_eq_zero h0
    rcases a with _ | ad
    · have hr : ∀ ty, (Builtin.append_ #[22, 22] ty #[.slice none 0 0, .slice none 0 cap]).run Try.prog w = .ok (.slice none 0 0) w := fun ty => by
        simp [Builtin.append_, run_underlying Try.underlying22, sizeOf, typeInfo, hi, Builtin.lenOf, Builtin.firstCells]
      clear h hcells
      go_enter Try.func16, Try.ntmps16
      go_wp2_with (at_builtin; refine wpList_append_run rfl _ _ 22 rfl (.slice none 0 0) (.slice none 0 cap) (.slice none 0 0) _ rfl rfl (hr _) ?_)
      go_ret
      exact ⟨_, rfl, OwnRecs.nil _ _, Chg.refl _ _⟩
    · clear h hcells
      go_enter Try.func16, Try.ntmps16
      go_wp2_with (at_builtin; refine wpList_append_own _ rfl _ _ 22 rfl w.heap.size 31 i0 (.agg #[.string ⟨#[]⟩, .string ⟨#[]⟩, .bool false]) 3 40 Try.underlying22 hi hz0 hz1 hz2 rfl (by decide) (.slice none 0 0) 0 [] rfl (World.ownsRow_nil _ _ _ _) ad 0 cap [] rfl rfl (fun j u h => by simp at h) (by simp) (by unfold maxLen; omega) (by omega) (Nat.le_refl _) ?_; intro v' w1 hown hgr _)
      go_ret
      exact ⟨v', rfl, by simpa [OwnRecs, recVals] using hown, (Chg.refl [] w).grown hgr (by simp [Value.ownBlock])⟩
  · obtain ⟨g, off, rfl, _⟩ := hcells 0 (by omega)
    have hnews : ∀ j u, (recVals rs)[j]? = some u → w.cell? ((⟨g, off, none⟩ : Addr).add j) = some u := fun j u hj => by
      obtain ⟨hlt, rfl⟩ := recVals_at rs j u hj
      obtain ⟨g', off', he, q0, q1, q2⟩ := hcells (j / 3) (by omega)
      simp only [Option.some.injEq, Addr.mk.injEq, and_true] at he
      obtain ⟨rfl, rfl⟩ := he
      rw [Addr.add_lit]
      rcases (by omega : j % 3 = 0 ∨ j % 3 = 1 ∨ j % 3 = 2) with e | e | e
      · rw [if_pos e]; rw [show off + j / 3 * 3 = off + j by omega] at q0; exact q0
      · rw [if_neg (by omega), if_pos e]; rw [show off + j / 3 * 3 + 1 = off + j by omega] at q1; exact q1
      · rw [if_neg (by omega), if_neg (by omega)]; rw [show off + j / 3 * 3 + 2 = off + j by omega] at q2; exact q2
    have hone : ∀ u ∈ recVals rs, u.oneCell' = true := fun u hu => by
      obtain ⟨j, hj, e⟩ := List.getElem_of_mem hu
      obtain ⟨_, e2⟩ := recVals_at rs j u (by rw [List.getElem?_eq_getElem hj, e])
      rw [e2]
      split
      · rfl
      · split <;> rfl
    have Hnews := Lib.hid hnews
    have Hone := Lib.hid hone
    have Hlen := Lib.hid (recVals_length rs)
    clear hnews hone h hcells
    go_enter Try.func16, Try.ntmps16
    go_wp2_with (at_builtin; refine wpList_append_own _ rfl _ _ 22 rfl w.heap.size 31 i0 (.agg #[.string ⟨#[]⟩, .string ⟨#[]⟩, .bool false]) 3 40 Try.underlying22 hi hz0 hz1 hz2 rfl (by decide) (.slice none 0 0) 0 [] rfl (World.ownsRow_nil _ _ _ _) ⟨g, off, none⟩ rs.length cap (recVals rs) rfl Hlen.out Hnews.out Hone.out (by unfold maxLen; omega) (by omega) (Nat.le_refl _) ?_; intro v' w1 hown hgr _)
    go_ret
    exact ⟨v', rfl, by simpa [OwnRecs] using hown, (Chg.refl [] w).grown hgr (by simp [Value.ownBlock])⟩
end Go.Proofs.Ytjijkfehieokbaa
