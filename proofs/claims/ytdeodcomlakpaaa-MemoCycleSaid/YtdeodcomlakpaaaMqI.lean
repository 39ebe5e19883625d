/- The helpers of the laws on query programs: the fixed example, usable, fit. -/
import Derived.Test.YtdeodcomlakpaaaQryH
import Derived.Test.YtdeodcomlakpaaaMod
import Derived.Laws.CopyOwn
namespace Go.Proofs.Ytdeodcomlakpaaa
open Go.RowKit Go.ChangeMaps Go.MapKept
set_option linter.unusedVariables false
/-! ### plain -/
theorem vq_ins {p : Prg} (hp : PrgOk p) {ins ins' : List Int} (h : ∀ j, red (ins.getD j 0) = red (ins'.getD j 0)) : ∀ n q, q < p.qs.length → vq p ins n q = vq p ins' n q := by
  intro n
  induction n with
  | zero => intros; rfl
  | succ n ih =>
    intro q hq
    unfold vq
    rw [runR_congr (G' := GV ins' (vq p ins' n)) (inp := p.inp) (GV_small (vq_small p ins n) _ _) (fun s k hk => by
      unfold GV kvalOf
      rcases hk with ⟨h0, _⟩ | ⟨h1, h2, h3, _⟩
      · rw [if_pos h0, if_pos h0, h]
      · rw [if_neg (by omega), if_neg (by omega), ih _ (by omega)]) (hp.qs q hq).each]
theorem val_ins {p : Prg} (hp : PrgOk p) {ins ins' : List Int} (h : ∀ j, red (ins.getD j 0) = red (ins'.getD j 0)) (q : Nat) (hq : q < p.qs.length) : val p ins q = val p ins' q := vq_ins hp h _ q hq
/-- the first queries alone have the same values -/
theorem vq_first {p : Prg} (hp : PrgOk p) (ins : List Int) (m : Nat) (hm : m ≤ p.qs.length) : ∀ n q, q < m → vq ⟨p.inp, p.qs.take m⟩ ins n q = vq p ins n q := by
  intro n
  induction n with
  | zero => intros; rfl
  | succ n ih =>
    intro q hq
    unfold vq
    have hg : (p.qs.take m).getD q [] = p.qs.getD q [] := by
      rw [List.getD_eq_getElem?_getD, List.getD_eq_getElem?_getD, List.getElem?_take, if_pos hq]
    simp only [hg]
    rw [runR_congr (G' := GV ins (vq p ins n)) (inp := p.inp) (GV_small (vq_small _ ins n) _ _) (GV_congr fun q' hq' => ih q' (by omega)) (hp.qs q (by omega)).each]
theorem first_ok {p : Prg} (hp : PrgOk p) (m : Nat) (hm : m ≤ p.qs.length) : PrgOk ⟨p.inp, p.qs.take m⟩ :=
  ⟨hp.inp, by have := hp.size; simp only [List.length_take]; omega, fun i hi => by
    simp only [List.length_take] at hi
    have hg : (p.qs.take m).getD i [] = p.qs.getD i [] := by
      rw [List.getD_eq_getElem?_getD, List.getD_eq_getElem?_getD, List.getElem?_take, if_pos (by omega)]
    simp only [hg]
    exact hp.qs i (by omega)⟩
/-! ### fit -/
def fitL (xs : List Int) (n : Nat) : List Int := xs.take n ++ List.replicate (n - xs.length) 0
theorem fitL_len (xs : List Int) (n : Nat) : (fitL xs n).length = n := by
  unfold fitL
  simp only [List.length_append, List.length_take, List.length_replicate]
  omega
theorem splice_fit (xs : List Int) (n : Nat) : splice (List.replicate n (Value.int .i64 0)) 0 ((xs.take n).map (Value.int .i64)) = (fitL xs n).map (Value.int .i64) := by
  unfold splice fitL
  simp only [List.take_zero, List.nil_append, Nat.zero_add, List.map_append, List.map_replicate, List.length_map, List.length_take, List.drop_replicate]
  congr 2
  omega
theorem Try.sizeInt : (Try.prog.info? 3).map (·.size) = some 1 := by kernel_rfl
set_option maxHeartbeats 1000000 in
theorem fit_any (p0 : Nat → Prop) (w : World) (v : Value) (xs : List Int) (n : Nat) (hn : n ≤ 1000000) (hx : IntsP p0 w v xs) :
    Calls Try.prog 28 #[v, .int .i64 (n : Int)] w fun e w' => ∃ g, e = .returned (.slice (some ⟨g, 0, none⟩) n n) ∧ w.heap.size ≤ g ∧ w'.rowIs g 3 n (fun j => .int .i64 ((fitL xs n).getD j 0)) ∧ Chg [] w w' := by
  obtain ⟨a, cap, rfl, hm, hc⟩ := hx.shape
  have Hx := Lib.hid hx
  clear hx
  unfold maxLen at hm
  have hmk := run_make_row' (P := Try.prog) 29 3 (.int .i64 0) 8 Try.underlying29 Try.infoIntQ rfl .i64 .i64 n (by omega) (by omega)
  have hmk' := hmk w
  clear hmk
  have hcur : madeCells #[.int .i64 0] n = (List.replicate n (Value.int .i64 0)).toArray := by
    apply Array.ext
    · simp [madeCells]
    · intro i h1 h2
      simp [madeCells, Nat.mod_one]
  have hg : (w.alloc (.cells (madeCells #[.int .i64 0] n) 3)).heap[w.heap.size]? = some (.cells (List.replicate n (Value.int .i64 0)).toArray 3 (0, 0)) := by rw [← hcur]; exact heap_at _ _ _ rfl
  have hpos : 0 < ((xs.take n).map (Value.int .i64)).length → some (⟨w.heap.size, 0, none⟩ : Addr) = some ⟨w.heap.size, 0, none⟩ ∧ ∃ ad, a = some ad ∧ ∀ j u, ((xs.take n).map (Value.int .i64))[j]? = some u → (w.alloc (.cells (madeCells #[.int .i64 0] n) 3)).cell? (ad.add j) = some u := by
    intro h0
    have h0' : 0 < xs.length := by simp at h0; omega
    obtain ⟨g, off, rfl, _, _⟩ := Hx.out.cell 0 h0'
    refine ⟨rfl, _, rfl, fun j u hj => ?_⟩
    rw [List.getElem?_map, List.getElem?_take] at hj
    split at hj
    · have hjx : j < xs.length := by
        have := Option.map_eq_some_iff.1 hj
        obtain ⟨y, hy, _⟩ := this
        exact (List.getElem?_eq_some_iff.1 hy).1
      obtain ⟨g', off', he, _, hcell⟩ := Hx.out.cell j hjx
      simp only [Option.some.injEq, Addr.mk.injEq, and_true] at he
      obtain ⟨rfl, rfl⟩ := he
      rw [List.getElem?_eq_getElem hjx] at hj
      simp only [Option.map_some, Option.some.injEq] at hj
      rw [Addr.add_lit, ← hj, (((Chg.refl [] w).alloc _).cell (lt_of_cell hcell) (fun h => by cases h)).trans hcell]
      simp [hjx]
    · cases hj
  have hrun : ∃ w2, (Builtin.copy_ #[29, 29] 3 #[.slice (some ⟨w.heap.size, 0, none⟩) n n, .slice a xs.length cap]).run Try.prog (w.alloc (.cells (madeCells #[.int .i64 0] n) 3)) = .ok (goInt ((xs.take n).map (Value.int .i64)).length) w2 ∧
      w2.heap[w.heap.size]? = some (.cells (splice (List.replicate n (Value.int .i64 0)) 0 ((xs.take n).map (Value.int .i64))).toArray 3 (0, 0)) ∧ Below w.heap.size w w2 := by
    have hbel : Below w.heap.size w (w.alloc (.cells (madeCells #[.int .i64 0] n) 3)) := (Below.refl _ _).alloc (Nat.le_refl _) _
    by_cases h0 : ((xs.take n).map (Value.int .i64)).length = 0
    · have h1 : (xs.take n).map (Value.int .i64) = [] := List.eq_nil_of_length_eq_zero h0
      refine ⟨_, ?_, ?_, hbel⟩
      · rw [h1]
        exact run_copy_none _ _ _ _ 3 _ _ _ _ _ _ Try.underlying29 Try.sizeInt (by
          rw [List.length_map, List.length_take] at h0
          show min xs.length n = 0
          omega)
      · rw [h1]
        simpa [splice] using hg
    · obtain ⟨_, ad, rfl, hsrc⟩ := hpos (by omega)
      refine ⟨_, run_copy_row Try.prog _ _ _ _ 3 _ _ _ _ ad _ _ _ 3 ((xs.take n).map (Value.int .i64)) Try.underlying29 Try.sizeInt hg (by
        simp only [List.length_map, List.length_take]
        show min n xs.length = min xs.length n
        omega) hsrc (by simp; omega) (by intro u hu; obtain ⟨y, _, rfl⟩ := List.mem_map.1 hu; rfl), ?_, below_setRow hbel (Nat.le_refl _) _⟩
      simpa [splice] using setRow_heap _ w.heap.size _ _ 3 _ hg
  obtain ⟨w2, hrun, hg2, hb2⟩ := hrun
  have Hg2 := Lib.hid hg2
  have Hb2 := Lib.hid hb2
  clear hcur hg hpos hg2 hb2
  go_enter Try.func28, Try.ntmps28
  go_wp2
  go_ret
  refine ⟨w.heap.size, rfl, Nat.le_refl _, ⟨_, Hg2.out, ?_, fun i hi => ?_⟩, Chg.of_below Hb2.out⟩
  · rw [splice_fit]
    simp [fitL_len]
  · rw [splice_fit]
    have hl : i < (fitL xs n).length := by rw [fitL_len]; exact hi
    simp [hl]
/-! ### the fixed example -/
def exP : Prg := ⟨1, [[(2, 0, 0), (1, -1, 0), (8, 0, 0)]]⟩
theorem exP_ok : PrgOk exP := by
  refine ⟨by decide, by decide, fun i hi => ?_⟩
  have hi' : i < 1 := hi
  obtain rfl : i = 0 := by omega
  refine ⟨by decide, ?_, by decide⟩
  intro o ho
  have ho' : o ∈ ([(2, 0, 0), (1, -1, 0), (8, 0, 0)] : List QO) := ho
  simp only [List.mem_cons, List.not_mem_nil, or_false] at ho'
  rcases ho' with rfl | rfl | rfl <;> (unfold OpOk; decide)
theorem exP_val : val exP [5] 0 = 999998 := by decide +kernel
theorem exP_ev : EvOk exP [5] 0 := ⟨exP_ok, by decide, by decide, by decide⟩
def exQ (w : World) : World := (((w.alloc (.cells #[.int .i64 2, .int .i64 0, .int .i64 0, .int .i64 1, .int .i64 (-1), .int .i64 0, .int .i64 8, .int .i64 0, .int .i64 0] 93)).alloc (.cells #[.slice (some ⟨w.heap.size, 0, none⟩) 3 3] 90)).alloc
  (.cells #[.int .i64 1, .slice (some ⟨w.heap.size + 1, 0, none⟩) 1 1] 42)).alloc (.cells #[.int .i64 5] 3)
theorem exQ_chg (w : World) : Chg [] w (exQ w) := ((((Chg.refl [] w).alloc _).alloc _).alloc _).alloc _
theorem exQ_size (w : World) : (exQ w).heap.size = w.heap.size + 4 := by simp [exQ]
theorem exQ_cells (w : World) : (exQ w).heap[w.heap.size]? = some (.cells #[.int .i64 2, .int .i64 0, .int .i64 0, .int .i64 1, .int .i64 (-1), .int .i64 0, .int .i64 8, .int .i64 0, .int .i64 0] 93) ∧ (exQ w).heap[w.heap.size + 1]? = some (.cells #[.slice (some ⟨w.heap.size, 0, none⟩) 3 3] 90) ∧ (exQ w).heap[w.heap.size + 1 + 1 + 1]? = some (.cells #[.int .i64 5] 3) := by
  unfold exQ World.alloc
  refine ⟨?_, ?_, ?_⟩ <;> (simp only [Array.getElem?_push, Array.size_push]; repeat (first | rw [if_pos trivial] | rw [if_neg (by omega)]))
theorem exQ_qs (w : World) : I3ss (fun g => g < (exQ w).heap.size) (exQ w) (.slice (some ⟨w.heap.size + 1, 0, none⟩) 1 1) exP.qs := by
  obtain ⟨h0, h1, _⟩ := exQ_cells w
  have hz := exQ_size w
  refine ⟨_, 1, rfl, Nat.le_refl _, by unfold maxLen; decide, fun _ => ⟨_, 0, rfl, by omega, fun j hj => ?_⟩⟩
  have hj' : j < 1 := hj
  obtain rfl : j = 0 := by omega
  refine ⟨_, cell_of_heap h1 rfl, _, 3, rfl, Nat.le_refl _, by unfold maxLen; decide, fun _ => ⟨_, 0, rfl, by omega, fun i hi => ?_⟩⟩
  have hi' : i < 3 := hi
  match i, hi' with
  | 0, _ => exact ⟨cell_of_heap h0 rfl, cell_of_heap h0 rfl, cell_of_heap h0 rfl⟩
  | 1, _ => exact ⟨cell_of_heap h0 rfl, cell_of_heap h0 rfl, cell_of_heap h0 rfl⟩
  | 2, _ => exact ⟨cell_of_heap h0 rfl, cell_of_heap h0 rfl, cell_of_heap h0 rfl⟩
theorem exQ_in (w : World) : IntsP (fun g => g < (exQ w).heap.size) (exQ w) (.slice (some ⟨w.heap.size + 1 + 1 + 1, 0, none⟩) 1 1) [5] := by
  obtain ⟨_, _, h3⟩ := exQ_cells w
  have hz := exQ_size w
  refine ⟨_, 1, rfl, Nat.le_refl _, by unfold maxLen; decide, fun _ => ⟨_, 0, rfl, by omega, fun j hj => ?_⟩⟩
  have hj' : j < 1 := hj
  obtain rfl : j = 0 := by omega
  exact cell_of_heap h3 rfl
def UsPost (inp : Int) (qs : List (List QO)) (w : World) (e : Ending) (w' : World) : Prop := ∃ b : Bool, e = .returned (.bool b) ∧ (b = true ↔ PrgOk ⟨inp, qs⟩ ∧ 0 < qs.length ∧ 0 < inp) ∧ Chg [] w w'
theorem UsPost.no {inp : Int} {qs : List (List QO)} {w w' : World} (hn : ¬ (PrgOk ⟨inp, qs⟩ ∧ 0 < qs.length ∧ 0 < inp)) (h : Chg [] w w') : UsPost inp qs w (.returned (.bool false)) w' := ⟨false, rfl, ⟨fun h => by simp at h, fun h => absurd h hn⟩, h⟩
theorem usable_any (p0 : Nat → Prop) (w : World) (inp : Int) (qs : List (List QO)) (qv : Value) (hq : I3ss p0 w qv qs) : Calls Try.prog 22 #[.agg #[.int .i64 inp, qv]] w (UsPost inp qs w) := by
  obtain ⟨av, capv, rfl, hlm, hlc⟩ := hq.shape
  have Hq := Lib.hid hq
  have hc0 : Chg [] w (w.alloc (.cells #[.int .i64 inp, .slice av qs.length capv] 42)) := (Chg.refl [] w).alloc _
  have Hc0 := Lib.hid hc0
  clear hq hc0
  unfold maxLen at hlm
  go_enter Try.func22, Try.ntmps22
  go_wp2_with fail
  refine (checkP_any p0 _ inp qs _ (Hq.out.kept (Hc0.out.p (S := fun _ => False)) (fun _ _ h => h))).mono ?_
  rintro e w1 ⟨c, rfl, hc, c1⟩
  have m0 := (c1.cell (p := ⟨w.heap.size, 0, none⟩) (by simp) (by simp)).trans (cell_of_heap (heap_at _ _ _ rfl) rfl)
  have m1 := (c1.cell (p := ⟨w.heap.size, 1, none⟩) (by simp) (by simp)).trans (cell_of_heap (heap_at _ _ _ rfl) rfl)
  have lm := lt_of_cell m0
  have Hc1 := Lib.hid (Hc0.out.trans c1)
  clear c1
  by_cases hok : PrgOk ⟨inp, qs⟩
  · obtain rfl : c = 0 := hc.2 hok
    have Hok := Lib.hid hok
    clear hc hok
    by_cases h1 : 0 < qs.length
    · have h1' : decide ((0 : Int) < qs.length) = true := decide_eq_true (by omega)
      have h1'' : (0 : Int) < qs.length := by omega
      by_cases h2 : 0 < inp
      · go_wp2
        go_ret
        exact ⟨true, rfl, ⟨fun _ => ⟨Hok.out, h1, h2⟩, fun _ => rfl⟩, Hc1.out⟩
      · have h2' : decide (0 < inp) = false := decide_eq_false h2
        go_wp2
        go_ret
        exact UsPost.no (fun h => by have := h.2.2; omega) Hc1.out
    · have h1' : decide ((0 : Int) < qs.length) = false := decide_eq_false (by omega)
      have h1'' : ¬ (0 : Int) < qs.length := by omega
      go_wp2
      go_ret
      exact UsPost.no (fun h => by have := h.2.1; omega) Hc1.out
  · have hc0 : c ≠ 0 := fun e => hok (hc.1 e)
    have hcb : (c == 0) = false := beq_eq_false_iff_ne.2 hc0
    have Hok := Lib.hid hok
    clear hc hok hc0
    go_wp2
    go_ret
    exact UsPost.no (fun h => Hok.out h.1) Hc1.out
end Go.Proofs.Ytdeodcomlakpaaa
