/- JsonrpcDecodeEncode: the given Clone of a row of values (the elements' own rows are shared). -/
import Derived.Test.YtiklgipcgdgkoaaDoorJrU
import Derived.Test.YtiklgipcgdgkoaaDoorJrT
namespace Go.Proofs.YtiklgipcgdgkoaaDoor.Jv
open Go.RowKit Go.ChangeMaps Go.MapKept
set_option linter.unusedVariables false
set_option linter.unusedSimpArgs false
def CeqPost (p : Nat → Prop) (f : Nat) (es : List J) (w : World) (e : Ending) (w' : World) : Prop := ∃ a' c' vs, e = .returned (.slice a' es.length c') ∧ OwnE w' w.heap.size (.slice a' es.length c') vs ∧ vs.length = es.length ∧ (∀ i (hi : i < es.length) (hv : i < vs.length), JV p f w vs[i].val es[i]) ∧ Chg [] w w'
set_option maxHeartbeats 2000000 in
theorem rcloneE_any (p : Nat → Prop) (f : Nat) (w : World) (a : Option Addr) (n cap : Nat) (es : List J) (h : SlR p 5 (rdJ p f) w (.slice a n cap) es) (hl : es.length * 80 ≤ 140737488355328) :
    Calls Tryd.prog 13 #[.slice a n cap] w (CeqPost p f es w) := by
  obtain ⟨vs, hvl, hve⟩ := elems_ev h
  have Hve := Lib.hid hve
  obtain ⟨a', cap', hv, h1, h2, h3⟩ := h
  simp only [Value.slice.injEq] at hv
  obtain ⟨rfl, hn, rfl⟩ := hv
  have h3 : 0 < vs.length → ∃ g off, a = some ⟨g, off, none⟩ := fun h0 => by
    obtain ⟨g, off, e, _⟩ := h3 (by omega)
    exact ⟨g, off, e⟩
  rw [← hvl] at hn h1 hl
  subst hn
  obtain ⟨i0, hi, hz0, hz1, hz2⟩ := info_parts infoJ
  cases a with
  | none =>
    have h0 : vs = [] := by
      rcases vs with _ | ⟨k, r⟩
      · rfl
      · obtain ⟨g, off, e⟩ := h3 (by simp)
        cases e
    subst h0
    have hr : ∀ ty, (Builtin.append_ #[23, 23] ty #[.slice none 0 0, .slice none 0 cap]).run Tryd.prog w = .ok (.slice none 0 0) w := fun ty => by
      simp [Builtin.append_, run_underlying Tryd.underlying23, sizeOf, typeInfo, hi, Builtin.lenOf, Builtin.firstCells]
    have Hvl := Lib.hid hvl
    clear h1 h2 h3 hve hvl
    go_enter Tryd.func13, Tryd.ntmps13
    go_wp2_with (at_builtin; refine wpList_append_run rfl _ _ 23 rfl (.slice none 0 0) (.slice none 0 cap) (.slice none 0 0) _ rfl rfl (hr _) ?_)
    go_ret
    have e0 : es.length = 0 := Hvl.out.symm
    exact ⟨none, 0, [], by rw [e0]; rfl, by rw [e0]; exact OwnE.nil _ _, Hvl.out, fun i hi => absurd hi (by omega), Chg.refl _ _⟩
  | some ad =>
    have hcs : ∀ j u, (evCells vs)[j]? = some u → w.cell? (ad.add j) = some u := by
      intro j u hu
      have hj5 : j < vs.length * 5 := by
        rcases Nat.lt_or_ge j (vs.length * 5) with h | h
        · exact h
        · rw [List.getElem?_eq_none (by rw [evCells_len]; exact h)] at hu; cases hu
      have hjl : j / 5 < vs.length := by omega
      obtain ⟨g, off, e, _, ⟨c0, c1, c2, c3, c4⟩, _⟩ := hve (j / 5) (by omega) hjl
      cases e
      rw [Addr.add_lit]
      have hg := evCells_get vs (j / 5) hjl (j % 5) (Nat.mod_lt _ (by decide))
      rw [show j / 5 * 5 + j % 5 = j by omega, hu] at hg
      have hm : j % 5 = 0 ∨ j % 5 = 1 ∨ j % 5 = 2 ∨ j % 5 = 3 ∨ j % 5 = 4 := by omega
      rcases hm with hm | hm | hm | hm | hm <;> rw [hm] at hg
      · rw [show off + j = off + j / 5 * 5 by omega, Option.some.inj hg]; exact c0
      · rw [show off + j = off + j / 5 * 5 + 1 by omega, Option.some.inj hg]; exact c1
      · rw [show off + j = off + j / 5 * 5 + 2 by omega, Option.some.inj hg]; exact c2
      · rw [show off + j = off + j / 5 * 5 + 3 by omega, Option.some.inj hg]; exact c3
      · rw [show off + j = off + j / 5 * 5 + 4 by omega, Option.some.inj hg]; exact c4
    have Hcs := Lib.hid hcs
    have Hvl := Lib.hid hvl
    have Hi0 := Lib.hid (And.intro hi (And.intro hz0 (And.intro hz1 hz2)))
    clear hcs h3 hve hi hz0 hz1 hz2 hvl
    go_enter Tryd.func13, Tryd.ntmps13
    go_wp2_with (at_builtin; refine wpList_append_own_at _ rfl _ _ 23 rfl w.heap.size 25 i0 (.agg #[.int .i64 0, .int .i64 0, .string ⟨#[]⟩, .slice none 0 0, .slice none 0 0]) 5 80 Tryd.underlying23 Hi0.out.1 Hi0.out.2.1 Hi0.out.2.2.1 Hi0.out.2.2.2 rfl (by decide) (.slice none 0 0) 0 [] rfl (World.ownsRow_nil _ _ _ _) ad vs.length cap (evCells vs) rfl (evCells_len vs) Hcs.out (evCells_oneCell vs) (by unfold maxLen; omega) (by omega) (Nat.le_refl _) ?_; intro v8 w8 hown8 hgr8 hnil8 hat8; have Hown8 := Lib.hid hown8; have Hgr8 := Lib.hid hgr8; clear hown8 hgr8 hnil8 hat8)
    go_ret
    have hown := Hown8.out
    rw [Nat.zero_add, List.nil_append] at hown
    obtain ⟨a', c', rfl⟩ := ownsRow_shape hown
    exact ⟨a', c', vs, by rw [← Hvl.out]; rfl, by rw [← Hvl.out]; exact hown, Hvl.out, fun i hi hv => by obtain ⟨_, _, _, _, _, hj⟩ := Hve.out i hi hv; exact hj, (Chg.refl [] w).grown Hgr8.out (fun k h => by simp [Value.ownBlock] at h)⟩
end Go.Proofs.YtiklgipcgdgkoaaDoor.Jv
