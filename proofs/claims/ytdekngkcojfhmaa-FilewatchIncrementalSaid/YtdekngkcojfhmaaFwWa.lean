/- The watcher: complete, NewWatcher, Add, Poll. -/
import Derived.Test.YtdekngkcojfhmaaFwT
import Derived.Test.YtdekngkcojfhmaaFwPlainE
namespace Go.Proofs.Ytdekngkcojfhmaa
open Go.RowKit Go.ChangeMaps Go.MapKept Go.Shelf
set_option linter.unusedVariables false
set_option linter.unusedSimpArgs false
/-- a watcher in memory -/
structure WatAt (w : World) (B wb : Nat) (d now : Int) (v : Value) (G : List FEv) : Prop where
  box : w.heap[wb]? = some (.cells #[.int .i64 d, .int .i64 now, v] 58 (0, 0))
  ev : OwnEv w B v G
theorem WatAt.ne {w : World} {B wb : Nat} {d now : Int} {v : Value} {G : List FEv} (h : WatAt w B wb d now v G) : v.ownBlock ≠ some wb := fun hg => by
  obtain ⟨cur, h2⟩ := own_at h.ev hg
  rw [h.box] at h2
  simp at h2
theorem WatAt.same {w w' : World} {B wb : Nat} {d now : Int} {v : Value} {G : List FEv} (h : WatAt w B wb d now v G) (hc : Chg [] w w') : WatAt w' B wb d now v G :=
  ⟨(hc.block _ (lt_of_obj h.box) (by simp)).trans h.box, h.ev.same hc⟩
theorem pollG_nil (d t : Int) : pollG d t [] = false := rfl
theorem pollG_ne (d t : Int) (G : List FEv) (h : 0 < G.length) : pollG d t G = decide ((G.getLastD ev0).1 + d ≤ t) := by
  obtain ⟨l, x, rfl⟩ : ∃ l x, G = l ++ [x] := ⟨G.dropLast, G.getLast (by intro h'; rw [h'] at h; simp at h), (List.dropLast_concat_getLast _).symm⟩
  unfold pollG
  rw [List.getLast?_concat]
  simp only [List.getLastD_concat]
  by_cases hx : x.1 + d ≤ t
  · rw [decide_eq_true hx]; exact decide_eq_true (by omega)
  · rw [decide_eq_false hx]; exact decide_eq_false (by omega)
set_option maxRecDepth 100000 in
set_option maxHeartbeats 4000000 in
theorem complete_any (w : World) (B wb : Nat) (d now t : Int) (v : Value) (G : List FEv) (h : WatAt w B wb d now v G) (hG : EvOk G) (h0 : 0 ≤ d) (h1 : d ≤ 1000000) (t0 : 0 ≤ t) (t1 : t ≤ 1000000000000) :
    Calls Try.prog 24 #[.pointer (some ⟨wb, 0, none⟩), .int .i64 t] w fun e w' => e = .returned (.bool (pollG d t G)) ∧ Chg [] w w' := by
  obtain ⟨a, cap, rfl⟩ := ownsRow_shape h.ev
  have H := Lib.hid h
  have x0 : w.cell? ⟨wb, 0, none⟩ = some (.int .i64 d) := cell_of_heap h.box rfl
  have x2 : w.cell? ⟨wb, 2, none⟩ = some (.slice a G.length cap) := cell_of_heap h.box rfl
  have lx := lt_of_cell x0
  have hgl := hG.len
  by_cases hp : 0 < G.length
  · have hp1 : decide ((0 : Int) < G.length) = true := decide_eq_true (by omega)
    have hpo := pollG_ne d t G hp
    obtain ⟨g, off, rfl, _, c0, _, _⟩ := h.ev.evs.cells (G.length - 1) (by omega)
    have htm := hG.time _ (getD_memE (show G.length - 1 < G.length by omega))
    rw [getLast_getD hp] at c0 htm
    obtain ⟨tl, htl⟩ : ∃ x, (G.getLastD ev0).1 = x := ⟨_, rfl⟩
    rw [htl] at c0 htm hpo
    have hka : (G.length : Int) - 1 < G.length := by omega
    have hkb : (0 : Int) ≤ (G.length : Int) - 1 := by omega
    have hkn : ((G.length : Int) - 1).toNat = G.length - 1 := by omega
    have hw1 : IntKind.i64.wrap (t - tl) = t - tl := IntWalk.i64_in _ (by omega)
    have hw2 : wrap64 (t - tl) = t - tl := by unfold wrap64; omega
    have Hpo := Lib.hid hpo
    clear h hG hpo htl
    by_cases hd : tl + d ≤ t
    · have hd1 : decide (d ≤ t - tl) = true := decide_eq_true (by omega)
      rw [decide_eq_true hd] at Hpo
      go_enter Try.func24, Try.ntmps24
      go_wp2_with fail
      go_quiet (fail)
      go_wp2_with fail
      go_ret
      exact ⟨by rw [Hpo.out]; rfl, (Chg.refl [] w).drewN _⟩
    · have hd1 : decide (d ≤ t - tl) = false := decide_eq_false (by omega)
      rw [decide_eq_false hd] at Hpo
      go_enter Try.func24, Try.ntmps24
      go_wp2_with fail
      go_quiet (fail)
      go_wp2_with fail
      go_ret
      exact ⟨by rw [Hpo.out]; rfl, (Chg.refl [] w).drewN _⟩
  · have hG0 : G = [] := List.eq_nil_of_length_eq_zero (by omega)
    subst hG0
    have hp1 : decide ((0 : Int) < (0 : Int)) = false := rfl
    simp only [List.length_nil] at x2
    clear h hG
    go_enter Try.func24, Try.ntmps24
    go_wp2_with fail
    go_quiet (fail)
    go_wp2_with fail
    go_ret
    exact ⟨rfl, (Chg.refl [] w).drewN _⟩
theorem newWatcher_any (w : World) (d : Int) (h0 : 0 ≤ d) (h1 : d ≤ 1000000) :
    Calls Try.prog 13 #[.int .i64 d] w fun e w' => e = .returned (.tuple #[.pointer (some ⟨w.heap.size, 0, none⟩), .int .i64 0]) ∧ w' = w.alloc (.cells #[.int .i64 d, .int .i64 0, .slice none 0 0] 58) := by
  have d1 : ¬ d < 0 := by omega
  have d2 : ¬ (1000000 : Int) < d := by omega
  go_enter Try.func13, Try.ntmps13
  go_wp2_with fail
  go_ret2
  exact ⟨rfl, rfl⟩
def AddPost (w : World) (B wb : Nat) (d : Int) (v : Value) (G : List FEv) (e : FEv) (x : Ending) (w' : World) : Prop :=
  x = .returned (.int .i64 0) ∧ ∃ v', WatAt w' B wb d e.1 v' (G ++ [e]) ∧ Chg (wb :: v.ownBlock.toList) w w' ∧ ∀ g, v'.ownBlock = some g → v.ownBlock = some g ∨ w.heap.size ≤ g
set_option maxRecDepth 100000 in
set_option maxHeartbeats 8000000 in
theorem add_any (w : World) (B wb : Nat) (d now : Int) (v : Value) (G : List FEv) (e : FEv) (h : WatAt w B wb d now v G) (hG : EvOk G) (h0 : 0 ≤ d) (h1 : d ≤ 1000000) (hk : vk e.2.2 = true) (t0 : 0 ≤ e.1) (t1 : e.1 ≤ 1000000000000) (hn : now ≤ e.1) (hp : pollG d e.1 G = false) (hB : B ≤ w.heap.size) :
    Calls Try.prog 16 #[.pointer (some ⟨wb, 0, none⟩), evV e] w (AddPost w B wb d v G e) := by
  obtain ⟨t, pa, kd⟩ := e
  obtain ⟨a, cap, rfl⟩ := ownsRow_shape h.ev
  simp only at hk t0 t1 hn hp
  have HV := Lib.hid (show ∀ W, Calls Try.prog 21 #[.int .i64 kd] W fun e w' => e = .returned (.bool true) ∧ w' = W from fun W => by
    have := validKind_any kd W
    rwa [hk] at this)
  obtain ⟨w2, hw2⟩ : ∃ x, x = w.alloc (.cells #[.int .i64 t, .string pa, .int .i64 kd] 33) := ⟨_, rfl⟩
  have hc2 : Chg [] w w2 := by rw [hw2]; exact (Chg.refl [] w).alloc _
  have hb2 : w2.heap[w.heap.size]? = some (.cells #[.int .i64 t, .string pa, .int .i64 kd] 33 (0, 0)) := by rw [hw2]; exact heap_at _ _ _ rfl
  have Hh2 := Lib.hid (h.same hc2)
  have x1 : w2.cell? ⟨wb, 1, none⟩ = some (.int .i64 now) := cell_of_heap Hh2.out.box rfl
  have y0 : w2.cell? ⟨w.heap.size, 0, none⟩ = some (.int .i64 t) := cell_of_heap hb2 rfl
  have y2 : w2.cell? ⟨w.heap.size, 2, none⟩ = some (.int .i64 kd) := cell_of_heap hb2 rfl
  have d1 : decide (t < 0) = false := decide_eq_false (by omega)
  have d2 : decide ((1000000000000 : Int) < t) = false := decide_eq_false (by omega)
  have d3 : decide (t < now) = false := decide_eq_false (by omega)
  have H2 := Lib.hid (And.intro hc2 hb2)
  have Hw2 := Lib.hid hw2
  have HG := Lib.hid hG
  have Hp := Lib.hid hp
  have hlw := lt_of_obj h.box
  obtain ⟨nb, hnb⟩ : ∃ n, n = w.heap.size := ⟨_, rfl⟩
  rw [← hnb] at y0 y2 hlw
  have Hnb := Lib.hid hnb
  have HB := Lib.hid hB
  clear h hG hk hc2 hb2 hw2 hp hn hnb hB
  unfold evV
  go_enter Try.func16, Try.ntmps16
  go_wp2_with fail
  rw [← Hw2.out, ← Hnb.out]
  refine (HV.out _).mono ?_
  rintro e w2 ⟨rfl, rfl⟩
  go_wp2_with fail
  go_quiet (fail)
  go_wp2_with fail
  obtain ⟨w3, hw3⟩ : ∃ x, x = w2.drewN nq := ⟨_, rfl⟩
  have hc3 : Chg [] w2 w3 := by rw [hw3]; exact (Chg.refl [] w2).drewN _
  rw [← hw3]
  refine (complete_any w3 B wb d now t _ G (Hh2.out.same hc3) HG.out h0 h1 t0 t1).mono ?_
  rw [Hp.out]
  rintro e w4 ⟨rfl, hc4⟩
  have hc34 := hc3.trans hc4
  have Hh4 := Lib.hid (Hh2.out.same hc34)
  have hb4 : w4.heap[nb]? = some (.cells #[.int .i64 t, .string pa, .int .i64 kd] 33 (0, 0)) := by rw [Hnb.out]; exact (hc34.block _ (lt_of_obj H2.out.2) (by simp)).trans H2.out.2
  have z0 : w4.cell? ⟨nb, 0, none⟩ = some (.int .i64 t) := cell_of_heap hb4 rfl
  have z1 : w4.cell? ⟨wb, 1, none⟩ = some (.int .i64 now) := cell_of_heap Hh4.out.box rfl
  have z2 : w4.frozen? ⟨wb, 1, none⟩ = false := frozen_of_heap Hh4.out.box
  have H4 := Lib.hid (And.intro (H2.out.1.trans hc34) hb4)
  clear hw3 hc3 hc4 hc34 hb4 x1 y0 y2
  go_upto_region 8 with (fail)
  obtain ⟨w5, hw5⟩ : ∃ x, x = w4.setCell ⟨wb, 1, none⟩ (.int .i64 t) := ⟨_, rfl⟩
  have hb5 : w5.heap[wb]? = some (.cells #[.int .i64 d, .int .i64 t, .slice a G.length cap] 58 (0, 0)) := by rw [hw5]; exact heap_setCell_same Hh4.out.box _
  have hne5 : nb ≠ wb := by
    intro e
    have h1 := H4.out.2
    rw [e, Hh4.out.box] at h1
    simp at h1
  have hc5 : Chg [wb] w4 w5 := by rw [hw5]; exact (Chg.refl [wb] w4).setCell (Or.inl (by simp)) _
  have he5 : w5.heap[nb]? = some (.cells #[.int .i64 t, .string pa, .int .i64 kd] 33 (0, 0)) := (hc5.block _ (lt_of_obj H4.out.2) (by simp; exact hne5)).trans H4.out.2
  have how5 : OwnEv w5 B (.slice a G.length cap) G := OwnEv.kept Hh4.out.ev hc5.toP fun g hg hm => Hh4.out.ne (by rw [hg]; exact congrArg some (by simpa using hm))
  rw [← hw5]
  obtain ⟨i0, hi, hz0, hz1, hz2⟩ := info_parts Try.infoEv
  have Hi0 := Lib.hid hi
  have Hz0 := Lib.hid hz0
  have Hz1 := Lib.hid hz1
  have Hz2 := Lib.hid hz2
  have p2 : w5.cell? ⟨wb, 2, none⟩ = some (.slice a G.length cap) := cell_of_heap hb5 rfl
  have q0 : w5.cell? ⟨nb, 0, none⟩ = some (.int .i64 t) := cell_of_heap he5 rfl
  have q1 : w5.cell? ⟨nb, 1, none⟩ = some (.string pa) := cell_of_heap he5 rfl
  have q2 : w5.cell? ⟨nb, 2, none⟩ = some (.int .i64 kd) := cell_of_heap he5 rfl
  have l5 := lt_of_cell p2
  have l6 := lt_of_cell q0
  have l5' : wb < w5.heap.size + 1 := by have := l5; simp only at this; omega
  have hsz5 : w.heap.size ≤ w5.heap.size := (H4.out.1.nil.trans hc5 : Chg [wb] w w5).size
  have H5 := Lib.hid (And.intro hb5 (And.intro (H4.out.1.nil.trans hc5 : Chg [wb] w w5) how5))
  have hgl := HG.out.len
  have hgo := Hh4.out.ne
  have Hgo := Lib.hid hgo
  clear hi hz0 hz1 hz2 z0 z1 z2 hb5 hc5 he5 how5 hw5 hgo
  go_region_law (refine step_append_lies _ (by rfl) _ _ _ (by rfl) B 33 i0 (.agg #[.int .i64 0, .string ⟨#[]⟩, .int .i64 0]) 3 32 Try.underlying22 Hi0.out Hz0.out Hz1.out Hz2.out rfl (by decide) (.slice a G.length cap) G.length (evCells G) (by rfl) (World.ownsRow.alloc H5.out.2.2 _) ⟨w5.heap.size, 0, none⟩ 1 1 [.int .i64 t, .string pa, .int .i64 kd] (by rfl) (by rfl) (news_of (heap_at _ _ _ (by simp))) (by simp [Value.oneCell']) (by omega) (by unfold maxLen; omega) (by omega) (by have := HB.out; simp; omega) (w5.heap.size + 1) (by simp) ?_; intro gg cap8 w8 hown8 hgr8 hat8 hlt8; have hap := own_chgD (World.ownsRow.alloc H5.out.2.2 (.cells #[.int .i64 t, .string pa, .int .i64 kd] 33)) hgr8; have hcw : Chg [] w5 (w5.alloc (.cells #[.int .i64 t, .string pa, .int .i64 kd] 33)) := (Chg.refl [] w5).alloc _; have hc58 : Chg (Value.slice a G.length cap).ownBlock.toList w5 w8 := hcw.nil.trans hap.1; have hb8 := (hc58.block wb l5 (fun hm => Hgo.out (by simpa using hm))).trans H5.out.1; have r2 : w8.cell? ⟨wb, 2, none⟩ = some (.slice a G.length cap) := cell_of_heap hb8 rfl; have r3 : w8.frozen? ⟨wb, 2, none⟩ = false := frozen_of_heap hb8; have H8 := Lib.hid (And.intro hown8 (And.intro hc58 (And.intro hb8 (And.intro hat8 hlt8)))); clear hown8 hgr8 hap hcw hc58 hat8 hlt8)
  all_goals
    try simp only [List.getElem_toArray, List.getElem_cons_zero, List.getElem_cons_succ]
    go_wp2_with fail
    go_ret
    refine ⟨rfl, .slice (some ⟨gg, 0, none⟩) (G.length + 1) cap8, ⟨?_, ?_⟩, ?_, ?_⟩
    · exact heap_setCell_same H8.out.2.2.1 _
    · refine OwnEv.kept (w := w8) (S := fun k => k = wb) ?_ ((ChgP.refl (fun k => k = wb) w8).setCell (p := ⟨wb, 2, none⟩) (Or.inl rfl) _) ?_
      · unfold OwnEv
        rw [evCells_snoc, List.length_append]
        exact H8.out.1
      · intro g hg e
        simp only [Value.ownBlock, Option.some.injEq] at hg
        rcases H8.out.2.2.2.1 with h | h
        · exact Hgo.out (by rw [h, hg, e])
        · omega
    · refine Chg.setCell ((H5.out.2.1.mono (by simp)).trans (H8.out.2.1.mono fun x hx => List.mem_cons_of_mem _ hx)) (Or.inl (by simp)) _
    · intro g hg
      simp only [Value.ownBlock, Option.some.injEq] at hg
      rcases H8.out.2.2.2.1 with h | h
      · exact Or.inl (by rw [h, hg])
      · exact Or.inr (by omega)
end Go.Proofs.Ytdekngkcojfhmaa
