/- A database over a compiled program; the fixed example. -/
import Derived.Test.YtdeodcomlakpaaaMnS
namespace Go.Proofs.Ytdeodcomlakpaaa
open Go.RowKit Go.ChangeMaps Go.MapKept
set_option linter.unusedVariables false
set_option linter.unusedSimpArgs false
/-- a database whose compute function is a compiled program -/
structure DbQ (p : Prg) (w0 : World) (RO : Nat → Prop) (b bv bq : Nat) (qv : Value) (w : World) (d : Dm) : Prop where
  env : Env w0 RO b w d
  mem : CompMem RO bv bq qv p.qs w0
  comp : d.comp = .func (.func 55) #[] #[.pointer (some ⟨bv, 0, none⟩), .pointer (some ⟨bq, 0, none⟩)]
  stop : d.stop = .nilFunc
  inv : InvW p d.pl
theorem fam_all {p : Prg} (hp : PrgOk p) {w0 : World} {RO : Nat → Prop} {b bv bq : Nat} {qv stop : Value} {stp : PS → Bool} (hm : CompMem RO bv bq qv p.qs w0)
    (hst : stop = .nilFunc ∧ stp = (fun _ => false) ∨ ∃ sf sfirst scaps, stop = .func (.func sf) sfirst scaps ∧ SFam w0 RO b sf sfirst scaps stp) :
    ∀ n, n ≤ p.qs.length → UFam w0 RO b (.func (.func 55) #[] #[.pointer (some ⟨bv, 0, none⟩), .pointer (some ⟨bq, 0, none⟩)]) stop (KQ p n) (UQ p.qs stp n) chI := by
  intro n
  induction n with
  | zero =>
    intro _
    have no : ∀ s k, ¬ KQ p 0 s k := fun s k h => by have := h.1.2.1; have := h.1.2.2.1; omega
    exact ⟨fun w d k _ _ _ h => absurd h (no _ _), fun s k k' h => absurd h (no _ _), fun s k h => absurd h (no _ _)⟩
  | succ n ih => intro hn; exact upd_fam hp (by omega) (comp_fam hp hm) hst (ih (by omega))
theorem Env.after {w0 : World} {RO : Nat → Prop} {b : Nat} {w w' : World} {d d' : Dm} (h : Env w0 RO b w d) (k : After b w w' d d') : Env w0 RO b w' d' :=
  ⟨k.mem, fun g hg => by
    obtain ⟨h1, h2, h3⟩ := h.ro g hg
    exact ⟨Nat.lt_of_lt_of_le h1 k.chg.size, (k.chg.block g h1 h3).trans h2, fun hm => (k.muts g hm).elim h3 fun hs => by omega⟩⟩
theorem qk_lt {N : Nat} {q : Nat} (h : q < N) : QryK N (1, (q : Int), 0) := ⟨rfl, by simp, by simp only; omega, rfl⟩
theorem InvW.idle {p : Prg} {s : PS} (h : InvW p s) : InvW p s.idle := ⟨h.es, fun k v hv => (by unfold PS.idle at hv; cases hv), h.du⟩
section
variable {p : Prg} {w0 : World} {RO : Nat → Prop} {b bv bq : Nat} {qv : Value} {w w' : World} {d d' : Dm}
theorem DbQ.new (h : DbQ p w0 RO b bv bq qv w d) (hc : Chg [] w w') : DbQ p w0 RO b bv bq qv w' d := ⟨h.env.new hc, h.mem, h.comp, h.stop, h.inv⟩
theorem DbQ.after (h : DbQ p w0 RO b bv bq qv w d) (ha : After b w w' d d') (hi : InvW p d'.pl) : DbQ p w0 RO b bv bq qv w' d' := ⟨h.env.after ha, h.mem, ha.comp.trans h.comp, ha.stop, hi⟩
/-- the plain update of the whole program -/
def upQ (p : Prg) (stp : PS → Bool) : PS → QK → Except Int Unit × PS := UQ p.qs stp p.qs.length
theorem kept_upQ (hp : PrgOk p) (stp : PS → Bool) (s : PS) (q : Nat) (hq : q < p.qs.length) (hi : InvW p s) : Kept p s (upQ p stp s (1, (q : Int), 0)).2 := kept_UQ hp stp _ (Nat.le_refl _) s q hq hi
theorem getQ_any (hp : PrgOk p) (h : DbQ p w0 RO b bv bq qv w d) (q : Nat) (hq : q < p.qs.length) :
    Calls Try.prog 19 #[.pointer (some ⟨b, 0, none⟩), i3v (1, (q : Int), 0)] w fun e w' => GPost (upQ p fun _ => false) b (1, (q : Int), 0) w d e w' ∧ ∀ d', d'.pl = ((upQ p fun _ => false) d.pl (1, (q : Int), 0)).2.idle → After b w w' d d' → DbQ p w0 RO b bv bq qv w' d' := by
  have hfam := fam_all hp (stop := .nilFunc) (b := b) h.mem (Or.inl ⟨rfl, rfl⟩) p.qs.length (Nat.le_refl _)
  refine (get_any (U := upQ p fun _ => false) (1, (q : Int), 0) (by simp) w d h.env ?_).mono fun e w' hg => ⟨hg, fun d' hpl ha => h.after ha ?_⟩
  · intro w' d' he hc hs hpl
    exact hfam.call w' d' _ he (hc.trans h.comp) hs ⟨qk_lt hq, by rw [hpl]; exact h.inv⟩
  · rw [hpl]; exact ((kept_upQ hp _ d.pl q hq h.inv).inv h.inv).idle
end
/-! ### the fixed example -/
def thP : Prg := ⟨1, [[(2, 0, 0), (1, 1, 0), (11, 0, 0)], [(3, 0, 0)]]⟩
theorem thP_ok : PrgOk thP := by
  refine ⟨by decide, by decide, fun i hi => ?_⟩
  have hi' : i < 2 := hi
  match i, hi' with
  | 0, _ =>
    refine ⟨by decide, fun o ho => ?_, by decide⟩
    have ho' : o ∈ ([(2, 0, 0), (1, 1, 0), (11, 0, 0)] : List QO) := ho
    simp only [List.mem_cons, List.not_mem_nil, or_false] at ho'
    rcases ho' with rfl | rfl | rfl <;> (unfold OpOk; decide)
  | 1, _ =>
    refine ⟨by decide, fun o ho => ?_, by decide⟩
    have ho' : o ∈ ([(3, 0, 0)] : List QO) := ho
    simp only [List.mem_cons, List.not_mem_nil, or_false] at ho'
    rcases ho' with rfl
    unfold OpOk; decide
set_option maxRecDepth 100000 in
set_option maxHeartbeats 1000000 in
theorem threshold_any (w : World) : Calls Try.prog 49 #[] w fun e w' => ∃ v, e = .returned (.agg #[.int .i64 1, v]) ∧ I3ss (fun g => w.heap.size ≤ g ∧ g < w'.heap.size) w' v thP.qs ∧ Chg [] w w' := by
  go_enter Try.func49, Try.ntmps49
  go_wp2
  obtain ⟨w1, hw1⟩ : ∃ x, x = ((((w.alloc (.cells #[.int .i64 1, .slice (some ⟨w.heap.size + 1 + 1 + 1, 0, none⟩) 2 2] 42)).alloc (.cells #[.int .i64 2, .int .i64 0, .int .i64 0, .int .i64 1, .int .i64 1, .int .i64 0, .int .i64 11, .int .i64 0, .int .i64 0] 93)).alloc (.cells #[.int .i64 3, .int .i64 0, .int .i64 0] 93)).alloc (.cells #[.slice (some ⟨w.heap.size + 1, 0, none⟩) 3 3, .slice (some ⟨w.heap.size + 1 + 1, 0, none⟩) 1 1] 90)) := ⟨_, rfl⟩
  rw [← hw1]
  have hc : Chg [] w w1 := by rw [hw1]; exact ((((Chg.refl [] w).alloc _).alloc _).alloc _).alloc _
  have hz : w1.heap.size = w.heap.size + 4 := by rw [hw1]; simp
  have h0 : w1.heap[w.heap.size]? = some (.cells #[.int .i64 1, .slice (some ⟨w.heap.size + 1 + 1 + 1, 0, none⟩) 2 2] 42 (0, 0)) := by
    rw [hw1]; exact (heap_past _ _ _ (by simp; omega)).trans ((heap_past _ _ _ (by simp; omega)).trans ((heap_past _ _ _ (by simp)).trans (heap_at _ _ _ rfl)))
  have h1 : w1.heap[w.heap.size + 1]? = some (.cells #[.int .i64 2, .int .i64 0, .int .i64 0, .int .i64 1, .int .i64 1, .int .i64 0, .int .i64 11, .int .i64 0, .int .i64 0] 93 (0, 0)) := by
    rw [hw1]; exact (heap_past _ _ _ (by simp)).trans ((heap_past _ _ _ (by simp)).trans (heap_at _ _ _ (by simp)))
  have h2 : w1.heap[w.heap.size + 1 + 1]? = some (.cells #[.int .i64 3, .int .i64 0, .int .i64 0] 93 (0, 0)) := by
    rw [hw1]; exact (heap_past _ _ _ (by simp)).trans (heap_at _ _ _ (by simp))
  have h3 : w1.heap[w.heap.size + 1 + 1 + 1]? = some (.cells #[.slice (some ⟨w.heap.size + 1, 0, none⟩) 3 3, .slice (some ⟨w.heap.size + 1 + 1, 0, none⟩) 1 1] 90 (0, 0)) := by
    rw [hw1]; exact heap_at _ _ _ (by simp)
  have r0 : w1.cell? ⟨w.heap.size, 0, none⟩ = some (.int .i64 1) := cell_of_heap h0 rfl
  have r1 : w1.cell? ⟨w.heap.size, 1, none⟩ = some (.slice (some ⟨w.heap.size + 1 + 1 + 1, 0, none⟩) 2 2) := cell_of_heap h0 rfl
  refine bodyPost_ret (v := .agg #[.int .i64 1, .slice (some ⟨w.heap.size + 1 + 1 + 1, 0, none⟩) 2 2]) (by simp [results, Try.results49, go_sem, r0, r1]) rfl ⟨_, rfl, ?_, hc⟩
  refine ⟨_, 2, rfl, Nat.le_refl _, by unfold maxLen; decide, fun _ => ⟨_, 0, rfl, ⟨by omega, by omega⟩, fun j hj => ?_⟩⟩
  have hj' : j < 2 := hj
  match j, hj' with
  | 0, _ =>
    refine ⟨_, cell_of_heap h3 rfl, _, 3, rfl, Nat.le_refl _, by unfold maxLen; decide, fun _ => ⟨_, 0, rfl, ⟨by omega, by omega⟩, fun i hi => ?_⟩⟩
    have hi' : i < 3 := hi
    match i, hi' with
    | 0, _ => exact ⟨cell_of_heap h1 rfl, cell_of_heap h1 rfl, cell_of_heap h1 rfl⟩
    | 1, _ => exact ⟨cell_of_heap h1 rfl, cell_of_heap h1 rfl, cell_of_heap h1 rfl⟩
    | 2, _ => exact ⟨cell_of_heap h1 rfl, cell_of_heap h1 rfl, cell_of_heap h1 rfl⟩
  | 1, _ =>
    refine ⟨_, cell_of_heap h3 rfl, _, 1, rfl, Nat.le_refl _, by unfold maxLen; decide, fun _ => ⟨_, 0, rfl, ⟨by omega, by omega⟩, fun i hi => ?_⟩⟩
    have hi' : i < 1 := hi
    match i, hi' with
    | 0, _ => exact ⟨cell_of_heap h2 rfl, cell_of_heap h2 rfl, cell_of_heap h2 rfl⟩
/-- a new database over a compiled program -/
theorem invW_empty (p : Prg) : InvW p PS.empty := ⟨fun k r h => (by unfold PS.empty at h; cases h), fun k v h => (by unfold PS.empty at h; cases h), fun k => by unfold PS.inp PS.empty; simp only; unfold aget; simp [IV.zero]⟩
theorem DbQ.make {p : Prg} {w0 : World} {RO : Nat → Prop} {b bv bq : Nat} {qv : Value} {w : World} {d : Dm} (hm : CompMem RO bv bq qv p.qs w0) (hRO : ∀ g, RO g → g < w0.heap.size) (hd : DmAt w b d) (hpl : d.pl = PS.empty) (hcomp : d.comp = .func (.func 55) #[] #[.pointer (some ⟨bv, 0, none⟩), .pointer (some ⟨bq, 0, none⟩)]) (hstop : d.stop = .nilFunc) (hc : Chg [] w0 w) (hn : ∀ g ∈ d.muts b ++ d.imms, w0.heap.size ≤ g) : DbQ p w0 RO b bv bq qv w d :=
  ⟨⟨hd, fun g hg => ⟨Nat.lt_of_lt_of_le (hRO g hg) hc.size, hc.block g (hRO g hg) (by simp), fun h => by have := hn g (List.mem_append_left _ h); have := hRO g hg; omega⟩⟩, hm, hcomp, hstop, by rw [hpl]; exact invW_empty p⟩
/-! what the fixed example computes -/
def ex1 : PS := setP PS.empty (0, 0, 0) [4] 0
def ex2 : Except Int Unit × PS := upQ thP (fun _ => false) ex1 (1, 1, 0)
def ex3 : PS := setP ex2.2.idle (0, 0, 0) [7] 0
def ex4 : Except Int Unit × PS := upQ thP (fun _ => false) ex3 (1, 1, 0)
theorem ex2_ok : ex2.1 = .ok () := by kernel_rfl
theorem ex2_val : (ex2.2.res (1, 1, 0)).xs = [0] := by kernel_rfl
theorem ex4_ok : ex4.1 = .ok () := by kernel_rfl
theorem ex4_val : (ex4.2.res (1, 1, 0)).xs = [0] := by kernel_rfl
theorem ex4_cnt : ex4.2.cnt = 3 := by kernel_rfl
theorem ex2_rev : ex2.2.rev = 1 := by kernel_rfl
theorem invW_set {p : Prg} {s : PS} (h : InvW p s) (k : QK) (xs : List Int) (du : Int) (hdu : 0 ≤ du ∧ du < 3) : InvW p (setP s k xs du) := by
  unfold setP
  split
  · exact h
  · refine ⟨h.es, h.act, fun k' => ?_⟩
    unfold PS.inp
    simp only [aget_ups]
    split
    · simp only [Option.getD_some]; omega
    · exact h.du k'
end Go.Proofs.Ytdeodcomlakpaaa
