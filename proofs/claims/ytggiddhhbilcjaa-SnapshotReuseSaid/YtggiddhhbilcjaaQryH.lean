/- newEvaluator, Eval. -/
import Derived.Test.YtggiddhhbilcjaaQryG
namespace Go.Proofs.Ytggiddhhbilcjaa
open Go.RowKit Go.ChangeMaps Go.MapKept
set_option linter.unusedVariables false
/-- what Eval and Reads ask -/
def EvOk (p : Prg) (ins : List Int) (q : Int) : Prop := PrgOk p ∧ (ins.length : Int) = p.inp ∧ 0 ≤ q ∧ q < p.qs.length
def NewPost (p0 : Nat → Prop) (p : Prg) (ins : List Int) (q : Int) (qv iv : Value) (w : World) (e : Ending) (w' : World) : Prop :=
  ((EvOk p ins q ∧ ∃ be bm, e = .returned (.tuple #[.pointer (some ⟨be, 0, none⟩), .int .i64 0]) ∧ w.heap.size ≤ be ∧ w.heap.size ≤ bm ∧ be ≠ bm ∧ EvMem p ins (fun k => p0 k ∨ k = be) be bm qv iv w') ∨
    (¬ EvOk p ins q ∧ ∃ c : Int, c ≠ 0 ∧ e = .returned (.tuple #[.pointer none, .int .i64 c]))) ∧ Chg [] w w'
theorem NewPost.no {p0 : Nat → Prop} {p : Prg} {ins : List Int} {q : Int} {qv iv : Value} {w w' : World} {c : Int} (hn : ¬ EvOk p ins q) (hc : c ≠ 0) (h : Chg [] w w') : NewPost p0 p ins q qv iv w (.returned (.tuple #[.pointer none, .int .i64 c])) w' := ⟨Or.inr ⟨hn, c, hc, rfl⟩, h⟩
set_option maxHeartbeats 1000000 in
theorem newEv_any (p0 : Nat → Prop) (w : World) (p : Prg) (ins : List Int) (q : Int) (qv iv : Value) (hq : I3ss p0 w qv p.qs) (hi : IntsP p0 w iv ins) (hp0 : ∀ k, p0 k → k < w.heap.size) :
    Calls Try.prog 41 #[.agg #[.int .i64 p.inp, qv], iv, .int .i64 q] w (NewPost p0 p ins q qv iv w) := by
  obtain ⟨inp, qs⟩ := p
  simp only at hq ⊢
  obtain ⟨av, capv, rfl, hlm, hlc⟩ := hq.shape
  obtain ⟨ai, capi, rfl, him, hic⟩ := hi.shape
  have Hq := Lib.hid hq
  have Hi := Lib.hid hi
  have Hp0 := Lib.hid hp0
  clear hq hi hp0
  unfold maxLen at hlm him
  have hc0 : Chg [] w (w.alloc (.cells #[.int .i64 inp, .slice av qs.length capv] 24)) := (Chg.refl [] w).alloc _
  have Hc0 := Lib.hid hc0
  clear hc0
  go_enter Try.func41, Try.ntmps41
  go_wp2_with fail
  refine (checkP_any p0 _ inp qs _ (Hq.out.kept (Hc0.out.p (S := fun _ => False)) (fun _ _ h => h))).mono ?_
  rintro e w1 ⟨c, rfl, hc, c1⟩
  have m0 := (c1.cell (p := ⟨w.heap.size, 0, none⟩) (by simp) (by simp)).trans (cell_of_heap (heap_at _ _ _ rfl) rfl)
  have m1 := (c1.cell (p := ⟨w.heap.size, 1, none⟩) (by simp) (by simp)).trans (cell_of_heap (heap_at _ _ _ rfl) rfl)
  have lm := lt_of_cell m0
  have Hc1 := Lib.hid (Hc0.out.trans c1)
  clear c1
  by_cases hok : PrgOk ⟨inp, qs⟩
  · obtain rfl : c = 0 := hc.2 hok
    have Hok := Lib.hid hok
    clear hc hok
    by_cases hlen : (ins.length : Int) = inp
    · have hb1 : ((ins.length : Int) != inp) = false := by rw [hlen]; simp
      have Hlen := Lib.hid hlen
      by_cases hq0 : q < 0
      · have hno : ¬ EvOk ⟨inp, qs⟩ ins q := fun h => by have := h.2.2.1; omega
        have Hno := Lib.hid hno
        clear hno hlen
        go_wp2
        go_ret2
        exact NewPost.no Hno.out (by omega) Hc1.out
      · by_cases hq1 : q < qs.length
        · have hyes : EvOk ⟨inp, qs⟩ ins q := ⟨Hok.out, hlen, by omega, hq1⟩
          have Hyes := Lib.hid hyes
          have hq2 : ¬ (qs.length : Int) ≤ q := by omega
          clear hyes hlen
          have hmm := @run_makeMap Try.prog
          go_wp2
          go_ret2
          have hb := heap_at w1 (.map #[] 0) w1.heap.size rfl
          have hall : Chg [] w ((w1.alloc (.map #[] 0)).alloc (.cells #[.int .i64 inp, .slice av qs.length capv, .slice ai ins.length capi, .map (some w1.heap.size)] 135)) := (Hc1.out.alloc _).alloc _
          have hbe : ((w1.alloc (.map #[] 0)).alloc (.cells #[.int .i64 inp, .slice av qs.length capv, .slice ai ins.length capi, .map (some w1.heap.size)] 135)).heap[w1.heap.size + 1]? = some (.cells #[.int .i64 inp, .slice av qs.length capv, .slice ai ins.length capi, .map (some w1.heap.size)] 135) := heap_at _ _ _ (by simp)
          have hsz := Hc1.out.size
          refine ⟨Or.inl ⟨Hyes.out, w1.heap.size + 1, w1.heap.size, rfl, by omega, hsz, by omega, ⟨cell_of_heap hbe rfl, cell_of_heap hbe rfl, cell_of_heap hbe rfl, ?_, ?_, Or.inr rfl, ?_, ?_⟩⟩, hall⟩
          · exact SlR.imp (Hq.out.kept (hall.p (S := fun _ => False)) (fun _ _ h => h)) (fun g hg => Or.inl hg) (fun ad x _ h => by
              obtain ⟨u, h1, h2⟩ := h
              exact ⟨u, h1, I3s.imp h2 (fun g hg => Or.inl hg)⟩)
          · exact IntsP.imp (Hi.out.kept (hall.p (S := fun _ => False)) (fun _ _ h => h)) (fun g hg => Or.inl hg)
          · rintro k (hk | rfl)
            · have := Hp0.out k hk; have := hall.size; omega
            · simp
          · exact ⟨[], (MapAt.made Try.prog 3 ik w1).of_block (heap_past _ _ _ (by simp)), by simp⟩
        · have hno : ¬ EvOk ⟨inp, qs⟩ ins q := fun h => by have := h.2.2.2; simp only at this; omega
          have Hno := Lib.hid hno
          have hq2 : (qs.length : Int) ≤ q := by omega
          clear hno hlen
          go_wp2
          go_ret2
          exact NewPost.no Hno.out (by omega) Hc1.out
    · have hb1 : ((ins.length : Int) != inp) = true := by rw [bne_iff_ne]; exact hlen
      have hno : ¬ EvOk ⟨inp, qs⟩ ins q := fun h => hlen h.2.1
      have Hno := Lib.hid hno
      clear hno hlen
      go_wp2
      go_ret2
      exact NewPost.no Hno.out (by omega) Hc1.out
  · have hc0 : c ≠ 0 := fun e => hok (hc.1 e)
    have hcb : (c != 0) = true := by rw [bne_iff_ne]; exact hc0
    have Hno := Lib.hid (show ¬ EvOk ⟨inp, qs⟩ ins q from fun h => hok h.1)
    have Hc2 := Lib.hid hc0
    clear hc hok hc0
    go_wp2
    go_ret2
    exact NewPost.no Hno.out Hc2.out Hc1.out
/-- what Eval returns -/
def EvalPost (p : Prg) (ins : List Int) (q : Int) (w : World) (e : Ending) (w' : World) : Prop :=
  ((EvOk p ins q ∧ e = .returned (.tuple #[.int .i64 (val p ins q.toNat), .int .i64 0])) ∨ (¬ EvOk p ins q ∧ ∃ c : Int, c ≠ 0 ∧ e = .returned (.tuple #[.int .i64 0, .int .i64 c]))) ∧ Chg [] w w'
set_option maxHeartbeats 1000000 in
theorem eval_any (p0 : Nat → Prop) (w : World) (p : Prg) (ins : List Int) (q : Int) (qv iv : Value) (hq : I3ss p0 w qv p.qs) (hi : IntsP p0 w iv ins) (hp0 : ∀ k, p0 k → k < w.heap.size) :
    Calls Try.prog 16 #[.agg #[.int .i64 p.inp, qv], iv, .int .i64 q] w (EvalPost p ins q w) := by
  have hc0 : Chg [] w (w.alloc (.cells #[.int .i64 p.inp, qv] 24)) := (Chg.refl [] w).alloc _
  have Hc0 := Lib.hid hc0
  have Hq := Lib.hid hq
  have Hi := Lib.hid hi
  have Hp0 := Lib.hid hp0
  obtain ⟨av, capv, rfl, hlm, hlc⟩ := hq.shape
  clear hc0 hq hi hp0
  unfold maxLen at hlm
  go_enter Try.func16, Try.ntmps16
  go_wp2_with fail
  refine (newEv_any p0 _ p ins q _ iv (Hq.out.kept (Hc0.out.p (S := fun _ => False)) (fun _ _ h => h)) (Hi.out.kept (Hc0.out.p (S := fun _ => False)) (fun _ _ h => h)) (fun k hk => by have := Hp0.out k hk; simp; omega)).mono ?_
  rintro e w1 ⟨h | h, c1⟩
  · obtain ⟨hok, be, bm, rfl, hbe, hbm, hne, hm⟩ := h
    have Hm := Lib.hid hm
    have Hok := Lib.hid hok
    have hbe' : w.heap.size < be := by simp at hbe; omega
    have hbm' : w.heap.size < bm := by simp at hbm; omega
    have Hne := Lib.hid hne
    have Hc1 := Lib.hid (Hc0.out.trans c1)
    clear hm hok hne c1
    go_wp2_with fail
    refine (get_below p ins Hok.out.1 (fun k => p0 k ∨ k = be) be bm _ iv Hok.out.2.1 p.qs.length (Nat.le_refl _) (fun k => k < w.heap.size) _ (1, q, 0) (Or.inr ⟨rfl, Hok.out.2.2.1, Hok.out.2.2.2, rfl⟩) ⟨Hm.out, by omega, fun h => by
      rcases h with h | h
      · have := Hp0.out _ h; omega
      · exact Hne.out h.symm⟩).mono ?_
    rintro e w2 ⟨rfl, _, c2⟩
    have hk : kval p ins (1, q, 0) = val p ins q.toNat := rfl
    have Hk := Lib.hid hk
    have hc2 : Chg [] w w2 := ((Hc1.out.p (S := fun _ => False)).comp c2 (fun k hk => by
      by_cases h : k < w.heap.size
      · exact absurd h hk.1
      · exact Or.inr (by omega))).mono (T := fun k => k ∈ []) (fun _ h => h.elim) |>.toL
    have Hc2 := Lib.hid hc2
    clear hk hc2 c2
    go_wp2
    go_ret2
    exact ⟨Or.inl ⟨Hok.out, by rw [← Hk.out]; rfl⟩, Hc2.out⟩
  · obtain ⟨hno, c, hc, rfl⟩ := h
    have hcb : (c != 0) = true := by rw [bne_iff_ne]; exact hc
    have Hno := Lib.hid hno
    have Hc := Lib.hid hc
    clear hno hc
    go_wp2
    go_ret2
    exact ⟨Or.inr ⟨Hno.out, c, Hc.out, rfl⟩, Hc0.out.trans c1⟩
end Go.Proofs.Ytggiddhhbilcjaa
