/- A client: Cancel, Pending of none. -/
import Derived.Test.YtiklgipcgdgkoaaDoorJsU
namespace Go.Proofs.YtiklgipcgdgkoaaDoor.Jv
open Go.RowKit Go.ChangeMaps Go.MapKept
set_option linter.unusedVariables false
set_option linter.unusedSimpArgs false
/-- what Cancel does -/
def CaPost (cb mb N : Nat) (es : List (Int × Value)) (i : Int) (w : World) (e : Ending) (w' : World) : Prop :=
  (∃ z : Int, z ≠ 0 ∧ e = .returned (.tuple #[zM, .int .i64 z]) ∧ Chg [] w w') ∨ (aget es i ≠ none ∧ e = .returned (.tuple #[mV 5 i 0 ⟨#[]⟩, .int .i64 0]) ∧ Cli w' cb mb N (ups es i (.int .i64 1)) ∧ ChgP (CF cb mb) w w')
set_option maxRecDepth 100000 in
set_option maxHeartbeats 4000000 in
theorem cliCancel_any (w : World) (cb mb N : Nat) (es : List (Int × Value)) (i : Int) (h : Cli w cb mb N es) (hi : In64 i) :
    Calls Tryd.prog 26 #[.pointer (some ⟨cb, 0, none⟩), .int .i64 i] w (CaPost cb mb N es i w) := by
  obtain ⟨w1, hw1⟩ : ∃ x, x = w.alloc (.cells #[.int .i64 0, .int .i64 0, .int .i64 0, .string ⟨#[]⟩, .int .i64 0, .int .i64 0, .string ⟨#[]⟩, .slice none 0 0, .slice none 0 0] 27) := ⟨_, rfl⟩
  obtain ⟨bb, hbb⟩ : ∃ x, x = w.heap.size := ⟨_, rfl⟩
  have hc1 : Chg [] w w1 := by rw [hw1]; exact (Chg.refl _ _).alloc _
  have hm1 : w1.heap[bb]? = some (.cells #[.int .i64 0, .int .i64 0, .int .i64 0, .string ⟨#[]⟩, .int .i64 0, .int .i64 0, .string ⟨#[]⟩, .slice none 0 0, .slice none 0 0] 27 (0, 0)) := by rw [hw1, hbb]; exact heap_at _ _ _ rfl
  have H1 := Lib.hid (h.new hc1)
  have Hc1 := Lib.hid hc1
  have Hm1 := Lib.hid hm1
  have Hi := Lib.hid hi
  have Hne : Hid (bb ≠ cb ∧ bb ≠ mb ∧ w.heap.size ≤ bb) := Lib.hid ⟨by have := lt_of_obj h.box; omega, by have := h.map.lt; omega, by omega⟩
  have c1 := H1.out.c1
  have lc := lt_of_cell c1
  have hlk := H1.out.look Hi.out
  have hg := h.get i
  obtain ⟨⟨r0, r1, r2, r3, r4, r5, r6, r7, r8⟩, rf, rl⟩ := nine hm1
  clear h hc1 hm1 hi
  rcases hg with hg | ⟨z, hg⟩
  · rw [hg] at hlk
    simp only [Option.getD_none, Option.isSome_none] at hlk
    clear hg
    go_enter Tryd.func26, Tryd.ntmps26
    go_upto_region 1 with fail
    rw [← hw1, ← hbb]
    clear hw1 hbb
    go_wp2_with fail
    refine bodyPost_ret (v := .tuple #[zM, .int .i64 5]) (by simp [results, Tryd.results26, go_sem, r0, r1, r2, r3, r4, r5, r6, r7, r8, zM, mV]) rfl ?_
    exact Or.inl ⟨5, by decide, rfl, Hc1.out.comp (st9_chg w1 bb 0 0 0 ⟨#[]⟩) fun x hx => Or.inr (by have := List.mem_singleton.1 hx; have := Hne.out; omega)⟩
  · rw [hg] at hlk
    simp only [Option.getD_some, Option.isSome_some] at hlk
    have Hg : Hid (aget es i ≠ none) := Lib.hid (by rw [hg]; simp)
    clear hg
    by_cases hz : z = 0
    · subst hz
      obtain ⟨o, hr, hC, hF⟩ := H1.out.store Hi.out 1
      obtain ⟨w2, hw2⟩ : ∃ x, x = setBlock w1 mb o := ⟨_, rfl⟩
      rw [← hw2] at hr hC hF
      have hm2 := (hF.block bb rl (fun h => h.elim Hne.out.1 Hne.out.2.1)).trans Hm1.out
      have HN := Lib.hid (And.intro hC hF)
      have Hm2 := Lib.hid hm2
      clear hC hF hm2 r0 r1 r2 r3 r4 r5 r6 r7 r8 rf
      go_enter Tryd.func26, Tryd.ntmps26
      go_upto_region 1 with fail
      rw [← hw1, ← hbb]
      clear hw1 hbb
      go_upto_region 7 with fail
      try rw [← hw2]
      clear hr hlk c1 lc rl hw2
      obtain ⟨⟨r0, r1, r2, r3, r4, r5, r6, r7, r8⟩, rf, rl⟩ := nine Hm2.out
      go_wp2_with fail
      refine bodyPost_ret (v := .tuple #[mV 5 i 0 ⟨#[]⟩, .int .i64 0]) (by simp [results, Tryd.results26, go_sem, r0, r1, r2, r3, r4, r5, r6, r7, r8, mV]) rfl ?_
      have hst := st9_chg w2 bb 5 i 0 ⟨#[]⟩
      refine Or.inr ⟨Hg.out, rfl, HN.out.1.kept hst.toP (by have := Hne.out; simpa using (Ne.symm this.1)) (by have := Hne.out; simpa using (Ne.symm this.2.1)), ((Hc1.out.p (S := CF cb mb)).trans HN.out.2).comp hst.toP fun x hx => Or.inr ?_⟩
      have := List.mem_singleton.1 hx
      have := Hne.out
      omega
    · have hz2 : (z != 0) = true := by simpa using hz
      clear hz
      go_enter Tryd.func26, Tryd.ntmps26
      go_upto_region 1 with fail
      rw [← hw1, ← hbb]
      clear hw1 hbb
      go_wp2_with fail
      refine bodyPost_ret (v := .tuple #[zM, .int .i64 6]) (by simp [results, Tryd.results26, go_sem, r0, r1, r2, r3, r4, r5, r6, r7, r8, zM, mV]) rfl ?_
      exact Or.inl ⟨6, by decide, rfl, Hc1.out.comp (st9_chg w1 bb 0 0 0 ⟨#[]⟩) fun x hx => Or.inr (by have := List.mem_singleton.1 hx; have := Hne.out; omega)⟩
theorem mapsKeysC_any (b : Nat) (w : World) : Calls Tryd.prog 46 #[.map (some b)] w fun e w' =>
    (∃ Bm, e = .returned (.func (.func 64) #[] #[.pointer (some ⟨Bm, 0, none⟩)]) ∧ w'.heap[Bm]? = some (.cells #[.map (some b)] 81 (0, 0))) ∧ Chg [] w w' := by
  have hm := heap_at w (.cells #[.map (some b)] 81) w.heap.size rfl
  have hc := (Chg.refl [] w).alloc (.cells #[.map (some b)] 81)
  have HM := Lib.hid (And.intro hm hc)
  have hmf : ∀ (fn : Fn) (first cap : Array Value) (w : World), (Instr.makeFunc fn first cap).run Tryd.prog w = .ok (.func fn first cap) w := fun _ _ _ _ => rfl
  clear hm hc
  go_enter Tryd.func46, Tryd.ntmps46
  go_wp2_with fail
  go_ret
  exact ⟨⟨_, rfl, HM.out.1⟩, HM.out.2⟩
set_option maxHeartbeats 4000000 in
theorem cliPending_any (w : World) (cb mb N : Nat) (h : Cli w cb mb N []) :
    Calls Tryd.prog 29 #[.pointer (some ⟨cb, 0, none⟩)] w fun e w' => (∃ a c, e = .returned (.slice a 0 c)) ∧ Chg [] w w' := by
  have H := Lib.hid h
  have c1 := h.c1
  have lc := lt_of_cell c1
  clear h
  go_enter Tryd.func29, Tryd.ntmps29
  go_wp2_with fail
  refine (mapsKeysC_any mb w).mono ?_
  rintro e w2 ⟨⟨Bm, rfl, hb⟩, hc⟩
  have Hc := Lib.hid hc
  have Hb := Lib.hid hb
  clear hc hb
  go_wp2_with fail
  refine (sortedNil_any w2 Bm mb Hb.out (H.out.new Hc.out).map).mono ?_
  rintro e w3 ⟨⟨a, c, rfl⟩, hc⟩
  have Hc3 := Lib.hid (Hc.out.trans hc)
  clear hc
  go_wp2_with fail
  go_ret
  exact ⟨⟨a, c, rfl⟩, Hc3.out⟩
end Go.Proofs.YtiklgipcgdgkoaaDoor.Jv
