/- The watcher's Poll. -/
import Derived.Test.YtdekngkcojfhmaaFwWa
import Derived.Deep.DeepCutAuto
namespace Go.Proofs.Ytdekngkcojfhmaa
open Go.RowKit Go.ChangeMaps Go.MapKept Go.Shelf
set_option linter.unusedVariables false
set_option linter.unusedSimpArgs false
def polR (d t : Int) (G : List FEv) : List Bt := if pollG d t G = true then outG d G else []
def polG (d t : Int) (G : List FEv) : List FEv := if pollG d t G = true then [] else G
def PollPost (w : World) (B wb : Nat) (d t : Int) (v : Value) (G : List FEv) (x : Ending) (w' : World) : Prop :=
  ((polR d t G = [] ∧ x = .returned (.tuple #[.agg #[.int .i64 0, .slice none 0 0], .bool false])) ∨
    ∃ b u, polR d t G = [b] ∧ x = .returned (.tuple #[.agg #[.int .i64 b.1, u], .bool true]) ∧ OwnEv w' w.heap.size u b.2) ∧
  (∃ v', WatAt w' B wb d t v' (polG d t G) ∧ (v' = v ∨ v' = .slice none 0 0)) ∧ Chg [wb] w w'
theorem setRes {w : World} {br : Nat} {c0 c1 : Value} {T : TypeId} (hb : w.heap[br]? = some (.cells #[c0, c1] T (0, 0))) (a b : Value) :
    ((w.setCell ⟨br, 0, none⟩ a).setCell ⟨br, 1, none⟩ b).heap[br]? = some (.cells #[a, b] T (0, 0)) ∧ Chg [br] w ((w.setCell ⟨br, 0, none⟩ a).setCell ⟨br, 1, none⟩ b) :=
  ⟨heap_setCell_same (heap_setCell_same hb (i := 0) a) (i := 1) b, ((Chg.refl [br] w).setCell (p := ⟨br, 0, none⟩) (Or.inl (by simp)) _).setCell (p := ⟨br, 1, none⟩) (Or.inl (by simp)) _⟩
theorem WatAt.keep {w w' : World} {B wb br : Nat} {d now : Int} {v : Value} {G : List FEv} {c0 c1 : Value} (h : WatAt w B wb d now v G) (hb : w.heap[br]? = some (.cells #[c0, c1] 31 (0, 0))) (hc : Chg [br] w w') : WatAt w' B wb d now v G := by
  refine ⟨(hc.block _ (lt_of_obj h.box) ?_).trans h.box, OwnEv.kept h.ev hc.toP fun g hg hm => ?_⟩
  · intro hm
    rw [List.mem_singleton] at hm
    have := h.box
    rw [hm, hb] at this
    simp at this
  · rw [List.mem_singleton] at hm
    obtain ⟨cur, h2⟩ := own_at h.ev hg
    rw [hm, hb] at h2
    simp at h2
theorem outG_ne (d : Int) (G : List FEv) (h : 0 < G.length) : outG d G = if nbE G = [] then [] else [((G.getLastD ev0).1 + d, nbE G)] := by
  obtain ⟨l, x, rfl⟩ : ∃ l x, G = l ++ [x] := ⟨G.dropLast, G.getLast (by intro h'; rw [h'] at h; simp at h), (List.dropLast_concat_getLast _).symm⟩
  unfold outG
  rw [List.getLast?_concat, List.getLastD_concat]
set_option maxRecDepth 100000 in
set_option maxHeartbeats 8000000 in
theorem poll_any (w : World) (B wb : Nat) (d now t : Int) (v : Value) (G : List FEv) (h : WatAt w B wb d now v G) (hG : EvOk G) (h0 : 0 ≤ d) (h1 : d ≤ 1000000) (t0 : 0 ≤ t) (t1 : t ≤ 1000000000000) (hn : now ≤ t) :
    Calls Try.prog 15 #[.pointer (some ⟨wb, 0, none⟩), .int .i64 t] w (PollPost w B wb d t v G) := by
  obtain ⟨w1, hw1⟩ : ∃ x, x = w.alloc (.cells #[.int .i64 0, .slice none 0 0] 31) := ⟨_, rfl⟩
  have hc1 : Chg [] w w1 := by rw [hw1]; exact (Chg.refl [] w).alloc _
  have hb1 : w1.heap[w.heap.size]? = some (.cells #[.int .i64 0, .slice none 0 0] 31 (0, 0)) := by rw [hw1]; exact heap_at _ _ _ rfl
  obtain ⟨br, hbr⟩ : ∃ n, n = w.heap.size := ⟨_, rfl⟩
  rw [← hbr] at hb1
  have hh1 := h.same hc1
  have x1 : w1.cell? ⟨wb, 1, none⟩ = some (.int .i64 now) := cell_of_heap hh1.box rfl
  have f1 : w1.frozen? ⟨wb, 1, none⟩ = false := frozen_of_heap hh1.box
  have lx := lt_of_cell x1
  have d1 : ¬ t < now := by omega
  obtain ⟨w2, hw2⟩ : ∃ x, x = w1.setCell ⟨wb, 1, none⟩ (.int .i64 t) := ⟨_, rfl⟩
  have hc2 : Chg [wb] w1 w2 := by rw [hw2]; exact (Chg.refl [wb] w1).setCell (Or.inl (by simp)) _
  have hne : br ≠ wb := by
    intro e
    rw [e, hh1.box] at hb1
    simp at hb1
  have hb2 : w2.heap[br]? = some (.cells #[.int .i64 0, .slice none 0 0] 31 (0, 0)) := (hc2.block _ (lt_of_obj hb1) (by simp; exact hne)).trans hb1
  have hh2 : WatAt w2 B wb d t v G := ⟨by rw [hw2]; exact heap_setCell_same hh1.box _, OwnEv.kept hh1.ev hc2.toP fun g hg hm => hh1.ne (by rw [hg]; exact congrArg some (by simpa using hm))⟩
  have Hcom := Lib.hid (complete_any w2 B wb d t t v G hh2 hG h0 h1 t0 t1)
  have H2 := Lib.hid (And.intro hh2 (And.intro hb2 (And.intro (hc1.nil.trans hc2 : Chg [wb] w w2) (And.intro hbr hne))))
  have HG := Lib.hid hG
  have Hw1 := Lib.hid hw1
  have Hw2 := Lib.hid hw2
  have Hbr := Lib.hid hbr
  clear h hG hc1 hb1 hh1 hc2 hne hb2 hh2 hn hw1 hw2 hbr
  go_enter Try.func15, Try.ntmps15
  go_upto_region 1 with (fail)
  rw [← Hw1.out, ← Hbr.out]
  go_wp2_with fail
  rw [← Hw2.out]
  refine Hcom.out.mono ?_
  rintro e w3 ⟨rfl, hc3⟩
  have hh3 := H2.out.1.same hc3
  have hb3 := (hc3.block _ (lt_of_obj H2.out.2.1) (by simp)).trans H2.out.2.1
  have hc03 := H2.out.2.2.1.trans hc3.nil
  have r0 : w3.cell? ⟨br, 0, none⟩ = some (.int .i64 0) := cell_of_heap hb3 rfl
  have r1 : w3.cell? ⟨br, 1, none⟩ = some (.slice none 0 0) := cell_of_heap hb3 rfl
  have g0 : w3.frozen? ⟨br, 0, none⟩ = false := frozen_of_heap hb3
  have g1 : w3.frozen? ⟨br, 1, none⟩ = false := frozen_of_heap hb3
  have lr := lt_of_cell r0
  have H3 := Lib.hid (And.intro hh3 (And.intro hb3 (And.intro hc03 H2.out.2.2.2)))
  clear hc3 hh3 hb3 hc03 x1 f1 lx H2 Hcom
  cases hp : pollG d t G with
  | false =>
    have hR : polR d t G = [] := by unfold polR; rw [hp]; rfl
    have hGG : polG d t G = G := by unfold polG; rw [hp]; rfl
    have HR := Lib.hid (And.intro hR hGG)
    clear hp hR hGG
    go_wp2_with fail
    obtain ⟨hz, hcz⟩ := setRes H3.out.2.1 (.int .i64 0) (.slice none 0 0)
    have y0 := cell_of_heap (i := 0) hz rfl
    have y1 := cell_of_heap (i := 1) hz rfl
    refine bodyPost_ret (v := .tuple #[.agg #[.int .i64 0, .slice none 0 0], .bool false]) (by simp [results, Try.results15, go_sem, y0, y1]) rfl ⟨Or.inl ⟨HR.out.1, rfl⟩, ⟨v, ?_, Or.inl rfl⟩, ?_⟩
    · rw [HR.out.2]
      exact H3.out.1.keep H3.out.2.1 hcz
    · exact H3.out.2.2.1.comp hcz fun x hx => Or.inr (by rw [List.mem_singleton.1 hx, Hbr.out]; exact Nat.le_refl _)
  | true =>
    have hG0 : 0 < G.length := by
      rcases Nat.eq_zero_or_pos G.length with h | h
      · rw [List.eq_nil_of_length_eq_zero h] at hp; exact absurd hp (by simp [pollG])
      · exact h
    have hR : polR d t G = if nbE G = [] then [] else [((G.getLastD ev0).1 + d, nbE G)] := by unfold polR; rw [hp, if_pos rfl, outG_ne d G hG0]
    have hGG : polG d t G = [] := by unfold polG; rw [hp]; rfl
    have HR := Lib.hid (And.intro hR hGG)
    obtain ⟨va, vc, hva⟩ := ownsRow_shape H3.out.1.ev
    subst hva
    have s0 : w3.cell? ⟨wb, 0, none⟩ = some (.int .i64 d) := cell_of_heap H3.out.1.box rfl
    have s2 : w3.cell? ⟨wb, 2, none⟩ = some (.slice va G.length vc) := cell_of_heap H3.out.1.box rfl
    have ls := lt_of_cell s0
    obtain ⟨tl, htl⟩ : ∃ x, (G.getLastD ev0).1 = x := ⟨_, rfl⟩
    rw [htl] at HR
    have HN := Lib.hid (show ∀ W, Chg [] w3 W → Calls Try.prog 20 #[.slice va G.length vc, .int .i64 d] W fun e w' => ∃ u, e = .returned (.agg #[.int .i64 (tl + d), u]) ∧ OwnEv w' W.heap.size u (nbE G) ∧ Chg [] W w' from fun W hW => by
      have := newBatch_any _ W (.slice va G.length vc) G d (H3.out.1.ev.evs.same hW) HG.out (List.length_pos_iff.1 hG0) h0 h1
      unfold NbPost at this
      rwa [htl] at this)
    have nnw : wb ∉ [w3.heap.size] := by simp only [List.mem_singleton]; have := ls; simp only at this; omega
    obtain ⟨N, hN⟩ : ∃ N, nbE G = N := ⟨_, rfl⟩
    rw [hN] at HN HR
    clear htl hN
    have hlw : w.heap.size ≤ w3.heap.size := H3.out.2.2.1.size
    clear hp hR hGG hG0
    go_upto_region 6 with (fail)
    go_cut [6] (fun x6 wx => ∃ b6 u, x6 = .pointer (some ⟨b6, 0, none⟩) ∧ wx.heap[b6]? = some (.cells #[.int .i64 (tl + d), u] 31 (0, 0)) ∧ OwnEv wx w.heap.size u N ∧ Chg [] w3 wx)
    case first =>
      go_region_held3 (fun w' => w'.cell? ⟨wb, 0, none⟩ = some (.int .i64 d) ∧ w'.cell? ⟨wb, 2, none⟩ = some (.slice va G.length vc))
        (first | (go_keep; done) | (exact ⟨a0, a2⟩) | (exact ⟨((setRes E4.out _ _).2.cell (p := ⟨wb, 0, none⟩) l4 nnw).trans a0, ((setRes E4.out _ _).2.cell (p := ⟨wb, 2, none⟩) l4 nnw).trans a2⟩))
        (first
          | (go_at_call 20; ((with_reducible refine (HN.out _ ((Chg.refl [] w3).drew)).mono ?_); rintro e w4 ⟨u, rfl, hu, hc4'⟩; obtain ⟨ua, uc, rfl⟩ := ownsRow_shape hu; have hc4 : Chg [] w3 w4 := ((Chg.refl [] w3).drew).trans hc4'; have a0 := (hc4.cell ls (by simp)).trans s0; have a2 := (hc4.cell (p := ⟨wb, 2, none⟩) ls (by simp)).trans s2; have H4 := Lib.hid (And.intro hu hc4); clear hu hc4 hc4'))
          | (go_at_call 20; (refine (HN.out _ (((Chg.refl [] w3).drew).alloc _)).mono ?_; rintro e w4 ⟨u, rfl, hu, hc4'⟩; obtain ⟨ua, uc, rfl⟩ := ownsRow_shape hu; have hc4 : Chg [] w3 w4 := (((Chg.refl [] w3).drew).alloc _).trans hc4'; have e4 : w4.heap[w3.heap.size]? = some (.cells #[.int .i64 0, .slice none 0 0] 31 (0, 0)) := (hc4'.block w3.heap.size (by simp) (by simp)).trans (heap_at _ _ _ rfl); have e40 : w4.cell? ⟨w3.heap.size, 0, none⟩ = some (.int .i64 0) := cell_of_heap e4 rfl; have e41 : w4.cell? ⟨w3.heap.size, 1, none⟩ = some (.slice none 0 0) := cell_of_heap e4 rfl; have e42 : w4.frozen? ⟨w3.heap.size, 0, none⟩ = false := frozen_of_heap e4; have e43 : w4.frozen? ⟨w3.heap.size, 1, none⟩ = false := frozen_of_heap e4; have E4 := Lib.hid e4; clear e4; have a0 := (hc4.cell ls (by simp)).trans s0; have a2 := (hc4.cell (p := ⟨wb, 2, none⟩) ls (by simp)).trans s2; have l4 := lt_of_cell a0; have H4 := Lib.hid (And.intro hu hc4); clear hu hc4 hc4')))
      all_goals
        try simp only [List.getElem_toArray, List.getElem_cons_zero, List.getElem_cons_succ]
        go_wp2_with fail
        go_meet
        first
          | exact ⟨_, _, rfl, heap_at _ _ _ rfl, ownsRow_base ((H4.out.1).same ((Chg.refl [] w4).alloc _)) hlw, H4.out.2.alloc _⟩
          | exact ⟨_, _, rfl, (setRes E4.out _ _).1, ownsRow_base (OwnEv.kept H4.out.1 (setRes E4.out _ _).2.toP (fun g hg hm => by
              have h1 := H4.out.1.lt g hg
              have h2 := List.mem_singleton.1 hm
              simp at h1
              omega)) (by simp; omega), H4.out.2.comp (setRes E4.out _ _).2 fun x hx => Or.inr (by rw [List.mem_singleton.1 hx]; exact Nat.le_refl _)⟩
    case rest =>
      obtain ⟨b6, u, rfl, hb6, hu, hc6⟩ := hcut
      obtain ⟨ua, uc, hua⟩ := ownsRow_shape hu
      subst hua
      have hh6 := H3.out.1.same hc6
      have k2 : wc.cell? ⟨wb, 2, none⟩ = some (.slice va G.length vc) := cell_of_heap hh6.box rfl
      have k3 : wc.frozen? ⟨wb, 2, none⟩ = false := frozen_of_heap hh6.box
      have hbr6 := (hc6.block _ (lt_of_obj H3.out.2.1) (by simp)).trans H3.out.2.1
      obtain ⟨w7, hw7⟩ : ∃ x, x = wc.setCell ⟨wb, 2, none⟩ (.slice none 0 0) := ⟨_, rfl⟩
      have hc7 : Chg [wb] wc w7 := by rw [hw7]; exact (Chg.refl [wb] wc).setCell (Or.inl (by simp)) _
      have hne6 : b6 ≠ wb := by
        intro e
        rw [e, hh6.box] at hb6
        simp at hb6
      have hb7 : w7.heap[b6]? = some (.cells #[.int .i64 (tl + d), .slice ua N.length uc] 31 (0, 0)) := (hc7.block _ (lt_of_obj hb6) (by simp; exact hne6)).trans hb6
      have hbr7 : w7.heap[br]? = some (.cells #[.int .i64 0, .slice none 0 0] 31 (0, 0)) := (hc7.block _ (lt_of_obj hbr6) (by simp; exact H3.out.2.2.2.2)).trans hbr6
      have hh7 : WatAt w7 B wb d t (.slice none 0 0) [] := ⟨by rw [hw7]; exact heap_setCell_same hh6.box _, OwnEv.nil _ _⟩
      have hu7 : OwnEv w7 w.heap.size (.slice ua N.length uc) N := OwnEv.kept hu hc7.toP fun g hg hm => by
        obtain ⟨cur, h2⟩ := own_at hu hg
        rw [List.mem_singleton.1 hm, hh6.box] at h2
        simp at h2
      have hc07 : Chg [wb] w w7 := (H3.out.2.2.1.trans hc6.nil).trans hc7
      have m0 : w7.cell? ⟨b6, 0, none⟩ = some (.int .i64 (tl + d)) := cell_of_heap hb7 rfl
      have m1 : w7.cell? ⟨b6, 1, none⟩ = some (.slice ua N.length uc) := cell_of_heap hb7 rfl
      have n0 : w7.cell? ⟨br, 0, none⟩ = some (.int .i64 0) := cell_of_heap hbr7 rfl
      have n1 : w7.cell? ⟨br, 1, none⟩ = some (.slice none 0 0) := cell_of_heap hbr7 rfl
      have n2 : w7.frozen? ⟨br, 0, none⟩ = false := frozen_of_heap hbr7
      have n3 : w7.frozen? ⟨br, 1, none⟩ = false := frozen_of_heap hbr7
      have lm := lt_of_cell m0
      have ln := lt_of_cell n0
      have hlk := lt_of_cell k2
      have Hw7 := Lib.hid hw7
      have H7 := Lib.hid (And.intro hh7 (And.intro hu7 (And.intro hc07 hbr7)))
      clear hh6 hbr6 hw7 hc7 hne6 hb7 hbr7 hh7 hu7 hc07 hb6 hu hc6
      have endz : ∀ a b, Chg [wb] w ((w7.setCell ⟨br, 0, none⟩ a).setCell ⟨br, 1, none⟩ b) := fun a b => H7.out.2.2.1.comp (setRes H7.out.2.2.2 a b).2 fun x hx => Or.inr (by rw [List.mem_singleton.1 hx, Hbr.out]; exact Nat.le_refl _)
      have Hend := Lib.hid endz
      clear endz
      by_cases hN0 : N = []
      · have hN1 : ((N.length : Int) == 0) = true := by rw [hN0]; rfl
        have hR2 := HR.out
        rw [if_pos hN0] at hR2
        have HR2 := Lib.hid hR2
        clear hN0 hR2
        go_upto_region 8 with (fail)
        rw [← Hw7.out]
        go_wp2_with fail
        obtain ⟨hz, hcz⟩ := setRes H7.out.2.2.2 (.int .i64 0) (.slice none 0 0)
        have y0 := cell_of_heap (i := 0) hz rfl
        have y1 := cell_of_heap (i := 1) hz rfl
        refine bodyPost_ret (v := .tuple #[.agg #[.int .i64 0, .slice none 0 0], .bool false]) (by simp [results, Try.results15, go_sem, y0, y1]) rfl ⟨Or.inl ⟨HR2.out.1, rfl⟩, ⟨_, ?_, Or.inr rfl⟩, Hend.out _ _⟩
        rw [HR2.out.2]
        exact H7.out.1.keep H7.out.2.2.2 hcz
      · have hN1 : ((N.length : Int) == 0) = false := by have := List.length_pos_iff.2 hN0; simp; omega
        have hR2 := HR.out
        rw [if_neg hN0] at hR2
        have HR2 := Lib.hid hR2
        clear hN0 hR2
        go_upto_region 8 with (fail)
        rw [← Hw7.out]
        go_wp2_with fail
        obtain ⟨hz, hcz⟩ := setRes H7.out.2.2.2 (.int .i64 (tl + d)) (.slice ua N.length uc)
        have y0 := cell_of_heap (i := 0) hz rfl
        have y1 := cell_of_heap (i := 1) hz rfl
        refine bodyPost_ret (v := .tuple #[.agg #[.int .i64 (tl + d), .slice ua N.length uc], .bool true]) (by simp [results, Try.results15, go_sem, y0, y1]) rfl ⟨Or.inr ⟨(tl + d, N), _, HR2.out.1, rfl, ?_⟩, ⟨_, ?_, Or.inr rfl⟩, Hend.out _ _⟩
        · refine OwnEv.kept H7.out.2.1 hcz.toP fun g hg hm => ?_
          obtain ⟨cur, h2⟩ := own_at H7.out.2.1 hg
          rw [List.mem_singleton.1 hm, H7.out.2.2.2] at h2
          simp at h2
        · rw [HR2.out.2]
          exact H7.out.1.keep H7.out.2.2.2 hcz
end Go.Proofs.Ytdekngkcojfhmaa
