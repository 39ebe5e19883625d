/- Snapshot.Get. -/
import Derived.Test.YtggiddhhbilcjaaSnO
import Derived.Recover
namespace Go.Proofs.Ytggiddhhbilcjaa.Sn
open Go.RowKit Go.ChangeMaps Go.MapKept Go.MuLone
set_option linter.unusedVariables false
set_option linter.unusedSimpArgs false
/-- the history, above blocks that nobody writes -/
structure EnvH (w0 : World) (RO : Nat → Prop) (w : World) (d : Hm) : Prop where
  mem : HmAt w d
  ro : ∀ g, RO g → g < w.heap.size ∧ w.heap[g]? = w0.heap[g]? ∧ ¬ d.M g
theorem EnvH.after {w0 w w' : World} {RO : Nat → Prop} {d d' : Hm} (h : EnvH w0 RO w d) (k : AfterH w w' d d') : EnvH w0 RO w' d' :=
  ⟨k.mem, fun g hg => by
    obtain ⟨h1, h2, h3⟩ := h.ro g hg
    obtain ⟨k1, k2, k3⟩ := k.other h1 h3
    exact ⟨k3, k1.trans h2, k2⟩⟩
theorem AfterH.set {w w1 : World} {d d1 : Hm} (h : AfterH w w1 d d1) {p : Addr} (hb : w.heap.size ≤ p.block) (hM : ¬ d1.M p.block) (hI : ¬ d1.I p.block) (v : Value) : AfterH w (w1.setCell p v) d d1 := by
  have hc : ChgP (fun g => g = p.block) w1 (w1.setCell p v) := (ChgP.refl (fun g => g = p.block) w1).setCell (Or.inl rfl) v
  exact ⟨h.mem.kept hc (fun g hg e => hM (e ▸ hg)) (fun g hg e => hI (e ▸ hg)), h.chg.comp hc fun g hg => Or.inr (by rw [hg]; exact hb), h.muts, h.imm, h.b, h.comp⟩
theorem AfterH.eval {w w1 w2 : World} {d d1 d2 : Hm} {be : Nat} {rev : Int} {A : List QK} {av2 : Value} (h : AfterH w w1 d d1) (hb : w.heap.size ≤ be) (k : NextE be rev A w1 w2 d1 (.slice none 0 0) d2 av2) : AfterH w w2 d d2 := by
  have hs := h.chg.size
  refine ⟨k.at_.mem, h.chg.comp k.chg ?_, fun g hg => ?_, fun g hg => (k.imm g hg).elim (h.imm g) fun e => Or.inr (by omega), k.b.trans h.b, k.comp.trans h.comp⟩
  · rintro g (hg | rfl | hg)
    · exact h.muts g hg
    · exact Or.inr hb
    · simp [Value.ownBlock] at hg
  · rcases k.muts g (Or.inl hg) with (hg | rfl | hg) | hg
    · exact h.muts g hg
    · exact Or.inr hb
    · simp [Value.ownBlock] at hg
    · exact Or.inr (by omega)
set_option maxRecDepth 100000 in
set_option maxHeartbeats 2000000 in
theorem get1_idle (w : World) (a b : Value) : CallsD Try.prog 35 #[a, b] .returning w fun e u' w' => e = .returned (.tuple #[]) ∧ u' = .returning ∧ w' = w := by
  refine callsD_of_wpS Try.func35 rfl fun c₀ cs hu => ?_
  apply wpS_seq
  apply wpS_region
  simp [wpOpsS, go_sem, Try.ntmps35, Exit.thenS, recoverD, hu]
  refine wpS_of_wp ?_
  simp only [Array.replicate, List.replicate, List.setIfInBounds_toArray, List.set_cons_zero, List.set_cons_succ, List.append_toArray, List.cons_append, List.nil_append]
  go_wp2_with fail
  show bodyPostS Try.prog Try.f35 c₀ cs _ _ _ _ _
  exact ⟨rfl, .returning, by rw [← hu], .tuple #[], results_none rfl _ _ _, rfl, rfl, rfl⟩
def StalePost (d : Hm) (w : World) (e : Ending) (w' : World) : Prop := e = .returned (.tuple #[.agg #[.slice none 0 0, .string ⟨#[]⟩], .int .i64 11]) ∧ AfterH w w' d d
/-- the boxes of a Get -/
structure GetBox (w wa : World) (d : Hm) (k2 : Int) : Prop where
  chg : Chg [] w wa
  size : wa.heap.size = w.heap.size + 1 + 1 + 1
  key : wa.heap[w.heap.size]? = some (.cells #[.int .i64 1, .int .i64 k2, .int .i64 0] 43 (0, 0))
  val : wa.heap[w.heap.size + 1]? = some (.cells #[.slice none 0 0, .string ⟨#[]⟩] 39 (0, 0))
  err : wa.heap[w.heap.size + 1 + 1]? = some (.cells #[.int .i64 0] 34 (0, 0))
theorem getBox (w : World) (d : Hm) (k2 : Int) : GetBox w (((w.alloc (.cells #[.int .i64 1, .int .i64 k2, .int .i64 0] 43)).alloc (.cells #[.slice none 0 0, .string ⟨#[]⟩] 39)).alloc (.cells #[.int .i64 0] 34)) d k2 :=
  ⟨(((Chg.refl [] w).alloc _).alloc _).alloc _, by simp, (heap_past _ _ _ (by simp; omega)).trans ((heap_past _ _ _ (by simp)).trans (heap_at _ _ _ rfl)), (heap_past _ _ _ (by simp)).trans (heap_at _ _ _ (by simp)), heap_at _ _ _ (by simp)⟩
set_option maxRecDepth 100000 in
set_option maxHeartbeats 8000000 in
theorem get_stale (w : World) (d : Hm) (q : Nat) (rev : Int) (sb : Nat) (h : HmAt w d) (hmu : d.mu = 0) (hsb : w.heap[sb]? = some (.cells #[.pointer (some ⟨d.b, 0, none⟩), .int .i64 rev] 82 (0, 0))) (hst : rev < d.old) :
    Calls Try.prog 11 #[.pointer (some ⟨sb, 0, none⟩), i3v (1, (q : Int), 0)] w (StalePost d w) := by
  obtain ⟨wa, hwa⟩ : ∃ x, x = ((w.alloc (.cells #[.int .i64 1, .int .i64 (q : Int), .int .i64 0] 43)).alloc (.cells #[.slice none 0 0, .string ⟨#[]⟩] 39)).alloc (.cells #[.int .i64 0] 34) := ⟨_, rfl⟩
  have hbx : GetBox w wa d (q : Int) := by rw [hwa]; exact getBox w d q
  have ha := AfterH.new h hbx.chg
  have q0 : wa.cell? ⟨d.b, 0, none⟩ = some (.int .i32 0) := by have := cell_of_heap ha.mem.box (i := 0) rfl; rw [this]; simp [Hm.head, hmu]
  have f0 := frozen_of_heap ha.mem.box (i := 0)
  have hl := lock_after ha.mem hmu
  obtain ⟨wl, hwl⟩ : ∃ x, x = wa.setCell ⟨d.b, 0, none⟩ (.int .i32 1) := ⟨_, rfl⟩
  have hlock : Calls Try.prog 31 #[.pointer (some ⟨d.b, 0, none⟩)] wa fun e w' => e = .returned (.tuple #[]) ∧ w' = wl := (lock_free Try.muLib ⟨d.b, 0, none⟩ _ q0 f0).mono fun e w' h => ⟨h.1, h.2.trans hwl.symm⟩
  rw [← hwl] at hl
  have hsn := ne_tyM (by decide) h (tyAt_cells hsb)
  have hsba := (hbx.chg.block _ (lt_of_obj hsb) (by simp)).trans hsb
  have hsbl := (hl.other (lt_of_obj hsba) hsn).1.trans hsba
  have nM : ∀ g, w.heap.size ≤ g → ¬ d.M g := fun g hg hm => by have := h.ltM hm; omega
  have nI : ∀ g, w.heap.size ≤ g → ¬ d.I g := fun g hg hm => by have := h.ltI hm; omega
  have hval := (hl.other (lt_of_obj hbx.val) (nM _ (by omega))).1.trans hbx.val
  have herr := (hl.other (lt_of_obj hbx.err) (nM _ (by omega))).1.trans hbx.err
  have s0a : wa.cell? ⟨sb, 0, none⟩ = some (.pointer (some ⟨d.b, 0, none⟩)) := cell_of_heap hsba rfl
  have s1 : wl.cell? ⟨sb, 1, none⟩ = some (.int .i64 rev) := cell_of_heap hsbl rfl
  have q6 : wl.cell? ⟨d.b, 6, none⟩ = some (.int .i64 d.old) := cell_of_heap hl.mem.box rfl
  have v0 := cell_of_heap hval (i := 0) rfl
  have v1 := cell_of_heap hval (i := 1) rfl
  have e0 := cell_of_heap herr (i := 0) rfl
  have fv0 := frozen_of_heap hval (i := 0)
  have fv1 := frozen_of_heap hval (i := 1)
  have fe0 := frozen_of_heap herr (i := 0)
  have d1 : decide (rev < d.old) = true := decide_eq_true hst
  have Hl := Lib.hid (ha.trans hl)
  have Hlock := Lib.hid hlock
  have Hn := Lib.hid (And.intro nM nI)
  have Hv := Lib.hid (And.intro hval herr)
  clear h ha hl hwl hlock hbx hsn hsba hsbl nM nI hval herr hsb q0 f0 hst
  unfold i3v
  go_enter_defers Try.func11, Try.ntmps11
  go_upto_region 1 with fail
  rw [← hwa]
  clear hwa
  go_wp2_with (go_at_call 31; refine Hlock.out.mono ?_; rintro e w1 ⟨rfl, rfl⟩)
  go_quiet (fail)
  go_wp2_with fail
  have hA := (((Hl.out.thenNew ((Chg.refl [] w1).drewN nq)).set (p := ⟨w.heap.size + 1, 0, none⟩) (by simp) (Hn.out.1 _ (by simp)) (Hn.out.2 _ (by simp)) (.slice none 0 0)).set (p := ⟨w.heap.size + 1, 1, none⟩) (by simp) (Hn.out.1 _ (by simp)) (Hn.out.2 _ (by simp)) (.string ⟨#[]⟩)).set (p := ⟨w.heap.size + 1 + 1, 0, none⟩) (by simp; omega) (Hn.out.1 _ (by simp; omega)) (Hn.out.2 _ (by simp; omega)) (.int .i64 11)
  have hne : w.heap.size + 1 ≠ w.heap.size + 1 + 1 := by omega
  have hvv : ((((w1.drewN nq).setCell ⟨w.heap.size + 1, 0, none⟩ (.slice none 0 0)).setCell ⟨w.heap.size + 1, 1, none⟩ (.string ⟨#[]⟩)).setCell ⟨w.heap.size + 1 + 1, 0, none⟩ (.int .i64 11)).heap[w.heap.size + 1]? = some (.cells #[.slice none 0 0, .string ⟨#[]⟩] 39 (0, 0)) :=
    (heap_setCell_ne _ _ _ _ hne).trans ((heap_setCell_same (heap_setCell_same Hv.out.1 _) _).trans rfl)
  have hee : ((((w1.drewN nq).setCell ⟨w.heap.size + 1, 0, none⟩ (.slice none 0 0)).setCell ⟨w.heap.size + 1, 1, none⟩ (.string ⟨#[]⟩)).setCell ⟨w.heap.size + 1 + 1, 0, none⟩ (.int .i64 11)).heap[w.heap.size + 1 + 1]? = some (.cells #[.int .i64 11] 34 (0, 0)) :=
    (heap_setCell_same ((heap_setCell_ne _ _ _ _ hne.symm).trans ((heap_setCell_ne _ _ _ _ hne.symm).trans Hv.out.2)) _).trans rfl
  obtain ⟨wf, hwf⟩ : ∃ x, x = ((((w1.drewN nq).setCell ⟨w.heap.size + 1, 0, none⟩ (.slice none 0 0)).setCell ⟨w.heap.size + 1, 1, none⟩ (.string ⟨#[]⟩)).setCell ⟨w.heap.size + 1 + 1, 0, none⟩ (.int .i64 11)) := ⟨_, rfl⟩
  rw [← hwf] at hA hvv hee ⊢
  clear hwf v0 v1 e0 fv0 fv1 fe0
  have q0l : wf.cell? ⟨d.b, 0, none⟩ = some (.int .i32 1) := cell_of_heap hA.mem.box rfl
  have f0l := frozen_of_heap hA.mem.box (i := 0)
  have hun := hA.trans (unlock_after hA.mem hmu)
  have Hun := Lib.hid hun
  have hdb : w.heap.size + 1 ≠ d.b := fun e => Hn.out.1 (w.heap.size + 1) (by omega) (Or.inl e)
  have hdb2 : w.heap.size + 1 + 1 ≠ d.b := fun e => Hn.out.1 (w.heap.size + 1 + 1) (by omega) (Or.inl e)
  obtain ⟨wu, hwu⟩ : ∃ x, x = wf.setCell ⟨d.b, 0, none⟩ (.int .i32 0) := ⟨_, rfl⟩
  have v0 : wu.cell? ⟨w.heap.size + 1, 0, none⟩ = some (.slice none 0 0) := by rw [hwu]; exact cell_of_heap ((heap_setCell_ne _ _ _ _ hdb).trans hvv) rfl
  have v1 : wu.cell? ⟨w.heap.size + 1, 1, none⟩ = some (.string ⟨#[]⟩) := by rw [hwu]; exact cell_of_heap ((heap_setCell_ne _ _ _ _ hdb).trans hvv) rfl
  have e0 : wu.cell? ⟨w.heap.size + 1 + 1, 0, none⟩ = some (.int .i64 11) := by rw [hwu]; exact cell_of_heap ((heap_setCell_ne _ _ _ _ hdb2).trans hee) rfl
  refine leaves_cons (f := 32) (args := #[.pointer (some ⟨d.b, 0, none⟩)]) (by simp) (by simp [go_sem]) ?_
  refine (unlock_deferred Try.muLib ⟨d.b, 0, none⟩ .returning _ q0l f0l).mono ?_
  rintro e u' w'' ⟨rfl, rfl, rfl⟩
  rw [← hwu] at Hun ⊢
  have hfin : StalePost d w (.returned (.tuple #[.agg #[.slice none 0 0, .string ⟨#[]⟩], .int .i64 11])) wu := ⟨rfl, Hun.out⟩
  simp [Leaves, settle, results, Try.results11, go_sem, v0, v1, e0]
  exact hfin
def GetPost (p : Prg) (rev : Int) (q : Nat) (w : World) (d : Hm) (e : Ending) (w' : World) : Prop :=
  ∃ d' a c, AfterH w w' d d' ∧ d'.pl = (RQ p.qs rev p.qs.length d.pl (1, (q : Int), 0)).2 ∧ d'.mu = 0 ∧ e = .returned (.tuple #[.agg #[.slice a (RQ p.qs rev p.qs.length d.pl (1, (q : Int), 0)).1.xs.length c, .string ⟨#[]⟩], .int .i64 0]) ∧ Inp.Ints w' (.slice a (RQ p.qs rev p.qs.length d.pl (1, (q : Int), 0)).1.xs.length c) (RQ p.qs rev p.qs.length d.pl (1, (q : Int), 0)).1.xs ∧ ∀ g ∈ oblk a, w.heap.size ≤ g
set_option maxRecDepth 100000 in
set_option maxHeartbeats 8000000 in
theorem get_any {p : Prg} {w0 : World} {RO : Nat → Prop} (hp : PrgOk p) {bv bq : Nat} {qv : Value} (hm : CompMem RO bv bq qv p.qs w0) (w : World) (d : Hm) (q : Nat) (rev : Int) (sb : Nat) (hE : EnvH w0 RO w d) (hcomp : d.comp = compV bv bq) (hq : q < p.qs.length) (hS : StOk p rev d.pl) (hmu : d.mu = 0) (hsb : w.heap[sb]? = some (.cells #[.pointer (some ⟨d.b, 0, none⟩), .int .i64 rev] 82 (0, 0))) (hst : ¬ rev < d.old) :
    Calls Try.prog 11 #[.pointer (some ⟨sb, 0, none⟩), i3v (1, (q : Int), 0)] w (GetPost p rev q w d) := by
  have h := hE.mem
  obtain ⟨wa, hwa⟩ : ∃ x, x = ((w.alloc (.cells #[.int .i64 1, .int .i64 (q : Int), .int .i64 0] 43)).alloc (.cells #[.slice none 0 0, .string ⟨#[]⟩] 39)).alloc (.cells #[.int .i64 0] 34) := ⟨_, rfl⟩
  have hbx : GetBox w wa d (q : Int) := by rw [hwa]; exact getBox w d q
  have ha := AfterH.new h hbx.chg
  have q0 : wa.cell? ⟨d.b, 0, none⟩ = some (.int .i32 0) := by have := cell_of_heap ha.mem.box (i := 0) rfl; rw [this]; simp [Hm.head, hmu]
  have f0 := frozen_of_heap ha.mem.box (i := 0)
  have hl := lock_after ha.mem hmu
  obtain ⟨wl, hwl⟩ : ∃ x, x = wa.setCell ⟨d.b, 0, none⟩ (.int .i32 1) := ⟨_, rfl⟩
  have hlsz : wl.heap.size = w.heap.size + 1 + 1 + 1 := by rw [hwl]; simp [World.setCell, hbx.size]
  have hlock : Calls Try.prog 31 #[.pointer (some ⟨d.b, 0, none⟩)] wa fun e w' => e = .returned (.tuple #[]) ∧ w' = wl := (lock_free Try.muLib ⟨d.b, 0, none⟩ _ q0 f0).mono fun e w' h => ⟨h.1, h.2.trans hwl.symm⟩
  rw [← hwl] at hl
  have hsn := ne_tyM (by decide) h (tyAt_cells hsb)
  have hsba := (hbx.chg.block _ (lt_of_obj hsb) (by simp)).trans hsb
  have hsbl := (hl.other (lt_of_obj hsba) hsn).1.trans hsba
  have nM : ∀ g, w.heap.size ≤ g → ¬ d.M g := fun g hg hm => by have := h.ltM hm; omega
  have nI : ∀ g, w.heap.size ≤ g → ¬ d.I g := fun g hg hm => by have := h.ltI hm; omega
  have hkey := (hl.other (lt_of_obj hbx.key) (nM _ (by omega))).1.trans hbx.key
  have hval := (hl.other (lt_of_obj hbx.val) (nM _ (by omega))).1.trans hbx.val
  have herr := (hl.other (lt_of_obj hbx.err) (nM _ (by omega))).1.trans hbx.err
  have s0a : wa.cell? ⟨sb, 0, none⟩ = some (.pointer (some ⟨d.b, 0, none⟩)) := cell_of_heap hsba rfl
  have s1 : wl.cell? ⟨sb, 1, none⟩ = some (.int .i64 rev) := cell_of_heap hsbl rfl
  have q6 : wl.cell? ⟨d.b, 6, none⟩ = some (.int .i64 d.old) := cell_of_heap hl.mem.box rfl
  have k0 : wl.cell? ⟨w.heap.size, 0, none⟩ = some (.int .i64 1) := cell_of_heap hkey rfl
  have d1 : decide (rev < d.old) = false := decide_eq_false hst
  have Hl := Lib.hid (ha.trans hl)
  have Hro := Lib.hid (hE.after (ha.trans hl)).ro
  have Hlock := Lib.hid hlock
  have Hn := Lib.hid (And.intro nM nI)
  have Hv := Lib.hid (And.intro hkey (And.intro hval herr))
  have HS := Lib.hid hS
  have Hsz := Lib.hid hlsz
  clear h ha hl hwl hlock hbx hsn hsba hsbl nM nI hkey hval herr hsb q0 f0 hst hE hS hlsz
  have Hres := Lib.hid (fun (w' : World) d' (hE' : EnvE w0 RO (w.heap.size + 1 + 1 + 1) rev [] w' d' (.slice none 0 0)) (hc : d'.comp = compV bv bq) (hs : StOk p rev d'.pl) => result_all (be := w.heap.size + 1 + 1 + 1) (rev := rev) hp hm p.qs.length w' d' (.slice none 0 0) [] q hq hq hE' hc hs ⟨by simp, by have := hp.size; simp; omega⟩)
  unfold i3v at Hres
  unfold i3v
  go_enter_defers Try.func11, Try.ntmps11
  go_upto_region 1 with fail
  rw [← hwa]
  clear hwa
  go_wp2_with (go_at_call 31; refine Hlock.out.mono ?_; rintro e w1 ⟨rfl, rfl⟩)
  go_quiet (fail)
  obtain ⟨wq, hwq⟩ : ∃ x, x = w1.drewN nq := ⟨_, rfl⟩
  rw [← hwq]
  have hcq : Chg [] w1 wq := by rw [hwq]; exact (Chg.refl _ _).drewN nq
  have hszq : wq.heap.size = w.heap.size + 1 + 1 + 1 := by rw [hwq]; simpa using Hsz.out
  have k0 := (hcq.cell (lt_of_cell k0) (by simp)).trans k0
  have s1 := (hcq.cell (lt_of_cell s1) (by simp)).trans s1
  have Hcq := Lib.hid hcq
  clear hwq hcq q6
  go_upto_region 13 with fail
  obtain ⟨we, hwe⟩ : ∃ x, x = wq.alloc (.cells #[.pointer (some ⟨d.b, 0, none⟩), .int .i64 rev, .slice none 0 0] 91) := ⟨_, rfl⟩
  rw [← hwe]
  have hce : Chg [] w1 we := by rw [hwe]; exact Hcq.out.alloc _
  have heb : we.heap[w.heap.size + 1 + 1 + 1]? = some (.cells #[.pointer (some ⟨d.b, 0, none⟩), .int .i64 rev, .slice none 0 0] 91 (0, 0)) := by rw [hwe]; exact heap_at _ _ _ hszq.symm
  have hAe := Hl.out.thenNew hce
  have hEe : EvAt (w.heap.size + 1 + 1 + 1) rev [] we { d with mu := 1 } (.slice none 0 0) := ⟨hAe.mem, heb, World.ownsRow_nil _ _ _ _, fun g hg => by simp [Value.ownBlock] at hg⟩
  have hEnv : EnvE w0 RO (w.heap.size + 1 + 1 + 1) rev [] we { d with mu := 1 } (.slice none 0 0) := ⟨hEe, fun g hg => by
    obtain ⟨z1, z2, z3⟩ := Hro.out g hg
    refine ⟨Nat.lt_of_lt_of_le z1 hce.size, (hce.block _ z1 (by simp)).trans z2, ?_⟩
    rintro (hm | e | hm)
    · exact z3 hm
    · have := Hsz.out; omega
    · simp [Value.ownBlock] at hm⟩
  have hcall := Hres.out we { d with mu := 1 } hEnv hcomp HS.out
  have hbe := And.intro ((hce.block _ (lt_of_obj Hv.out.1) (by simp)).trans Hv.out.1) (And.intro ((hce.block _ (lt_of_obj Hv.out.2.1) (by simp)).trans Hv.out.2.1) ((hce.block _ (lt_of_obj Hv.out.2.2) (by simp)).trans Hv.out.2.2))
  have k0 := cell_of_heap hbe.1 (i := 0) rfl
  have k1 := cell_of_heap hbe.1 (i := 1) rfl
  have k2 := cell_of_heap hbe.1 (i := 2) rfl
  have Hcall := Lib.hid hcall
  have Hbe := Lib.hid hbe
  have HAe := Lib.hid hAe
  clear hwe hce heb hAe hEe hEnv hcall hbe Hres s1 s0a d1 hszq
  go_wp2_with fail
  refine Hcall.out.mono ?_
  rintro e w2 ⟨d2, av2, r, hN, hpl, hrp, hrm, rfl⟩
  have hne : ∀ g, w.heap.size + 1 ≤ g → g ≠ w.heap.size + 1 + 1 + 1 → ¬ EM { d with mu := 1 } (w.heap.size + 1 + 1 + 1) (.slice none 0 0) g := by
    rintro g hg hg2 (hm | e | hm)
    · exact Hn.out.1 g (by omega) hm
    · exact hg2 e
    · simp [Value.ownBlock] at hm
  have o1 := hN.other (lt_of_obj Hbe.out.2.1) (hne _ (by omega) (by omega))
  have o2 := hN.other (lt_of_obj Hbe.out.2.2) (hne _ (by omega) (by omega))
  have hA2 := HAe.out.eval (show w.heap.size ≤ w.heap.size + 1 + 1 + 1 by omega) hN
  have hval := o1.1.trans Hbe.out.2.1
  have herr := o2.1.trans Hbe.out.2.2
  have hrs := hA2.mem.each (1, (q : Int), 0) r hrm
  have r2 : w2.cell? ⟨r.blk, 2, none⟩ = some (.slice r.a r.xs.length r.cap) := cell_of_heap hrs.blk rfl
  have r3 : w2.cell? ⟨r.blk, 3, none⟩ = some (.string ⟨#[]⟩) := cell_of_heap hrs.blk rfl
  have hcl := clone_any w2 (.slice r.a r.xs.length r.cap) ⟨#[]⟩ r.xs hrs.nums hrs.size
  have Hcl := Lib.hid hcl
  have HA2 := Lib.hid hA2
  have Hb2 := Lib.hid (And.intro hval herr)
  have Hpl := Lib.hid (And.intro hpl (And.intro hrp hN.mu))
  have HNs := Lib.hid hN.chg.size
  clear hN hpl hrp hrm hne o1 o2 hA2 hval herr hrs hcl k0 k1 k2
  unfold Rs.val
  go_wp2_with fail
  refine Hcl.out.mono ?_
  rintro e w3 ⟨a3, c3, rfl, hi3, hn3, hc3⟩
  have hv3 := (hc3.block _ (lt_of_obj Hb2.out.1) (by simp)).trans Hb2.out.1
  have he3 := (hc3.block _ (lt_of_obj Hb2.out.2) (by simp)).trans Hb2.out.2
  have v0 := cell_of_heap hv3 (i := 0) rfl
  have v1 := cell_of_heap hv3 (i := 1) rfl
  have e0 := cell_of_heap he3 (i := 0) rfl
  have fv0 := frozen_of_heap hv3 (i := 0)
  have fv1 := frozen_of_heap hv3 (i := 1)
  have fe0 := frozen_of_heap he3 (i := 0)
  have hnI : ∀ g t, w3.heap[g]? = some t → (tyAt w3 g = some (some 39) ∨ tyAt w3 g = some (some 34)) → ¬ d2.I g := fun g t _ hg hi => by
    rcases (HA2.out.thenNew hc3).mem.tyI hi with e | e <;> rcases hg with e' | e' <;> · rw [e] at e'; cases e'
  have iv := hnI _ _ hv3 (Or.inl (tyAt_cells hv3))
  have ie := hnI _ _ he3 (Or.inr (tyAt_cells he3))
  have mv : ¬ d2.M (w.heap.size + 1) := ne_tyM (by decide) (HA2.out.thenNew hc3).mem (tyAt_cells hv3)
  have me : ¬ d2.M (w.heap.size + 1 + 1) := ne_tyM (by decide) (HA2.out.thenNew hc3).mem (tyAt_cells he3)
  have hA := (((HA2.out.thenNew hc3).set (p := ⟨w.heap.size + 1, 0, none⟩) (by simp) mv iv (.slice a3 r.xs.length c3)).set (p := ⟨w.heap.size + 1, 1, none⟩) (by simp) mv iv (.string ⟨#[]⟩)).set (p := ⟨w.heap.size + 1 + 1, 0, none⟩) (by simp; omega) me ie (.int .i64 0)
  have hne : w.heap.size + 1 ≠ w.heap.size + 1 + 1 := by omega
  have hvv : (((w3.setCell ⟨w.heap.size + 1, 0, none⟩ (.slice a3 r.xs.length c3)).setCell ⟨w.heap.size + 1, 1, none⟩ (.string ⟨#[]⟩)).setCell ⟨w.heap.size + 1 + 1, 0, none⟩ (.int .i64 0)).heap[w.heap.size + 1]? = some (.cells #[.slice a3 r.xs.length c3, .string ⟨#[]⟩] 39 (0, 0)) :=
    (heap_setCell_ne _ _ _ _ hne).trans ((heap_setCell_same (heap_setCell_same hv3 _) _).trans rfl)
  have hee : (((w3.setCell ⟨w.heap.size + 1, 0, none⟩ (.slice a3 r.xs.length c3)).setCell ⟨w.heap.size + 1, 1, none⟩ (.string ⟨#[]⟩)).setCell ⟨w.heap.size + 1 + 1, 0, none⟩ (.int .i64 0)).heap[w.heap.size + 1 + 1]? = some (.cells #[.int .i64 0] 34 (0, 0)) :=
    (heap_setCell_same ((heap_setCell_ne _ _ _ _ hne.symm).trans ((heap_setCell_ne _ _ _ _ hne.symm).trans he3)) _).trans rfl
  have hch : ChgP (fun g => g = w.heap.size + 1 ∨ g = w.heap.size + 1 + 1) w3 (((w3.setCell ⟨w.heap.size + 1, 0, none⟩ (.slice a3 r.xs.length c3)).setCell ⟨w.heap.size + 1, 1, none⟩ (.string ⟨#[]⟩)).setCell ⟨w.heap.size + 1 + 1, 0, none⟩ (.int .i64 0)) :=
    (((ChgP.refl _ w3).setCell (p := ⟨w.heap.size + 1, 0, none⟩) (Or.inl (Or.inl rfl)) _).setCell (p := ⟨w.heap.size + 1, 1, none⟩) (Or.inl (Or.inl rfl)) _).setCell (p := ⟨w.heap.size + 1 + 1, 0, none⟩) (Or.inl (Or.inr rfl)) _
  have hi4 := intsKept' hi3 fun g hg => hch.block g (tyAt_lt (tyAt_ints hi3 hg)) fun e => by
    have ht := tyAt_ints hi3 hg
    rcases e with rfl | rfl
    · rw [tyAt_cells hv3] at ht; cases ht
    · rw [tyAt_cells he3] at ht; cases ht
  have hA0 : ∀ g ∈ oblk a3, w.heap.size ≤ g := fun g hg => by
    cases a3 with
    | none => simp [oblk] at hg
    | some ad =>
      have := hn3 ad rfl
      simp [oblk] at hg
      have h2 := HNs.out
      have h3 := HAe.out.chg.size
      omega
  have HA0 := Lib.hid hA0
  have Hlast := Lib.hid (And.intro hA (And.intro hvv (And.intro hee hi4)))
  clear hnI iv ie mv me hA hvv hee hi4 hn3 hi3 hc3 hch hA0
  go_wp2_with fail
  obtain ⟨hA, hvv, hee, hi4⟩ := Hlast.out
  obtain ⟨wf, hwf⟩ : ∃ x, x = (((w3.setCell ⟨w.heap.size + 1, 0, none⟩ (.slice a3 r.xs.length c3)).setCell ⟨w.heap.size + 1, 1, none⟩ (.string ⟨#[]⟩)).setCell ⟨w.heap.size + 1 + 1, 0, none⟩ (.int .i64 0)) := ⟨_, rfl⟩
  rw [← hwf] at hA hvv hee hi4 ⊢
  clear hwf v0 v1 e0 fv0 fv1 fe0 Hlast
  obtain ⟨hpl, hrp, hmu2⟩ := Hpl.out
  have hb2 : d2.b = d.b := HA2.out.b
  have q0l : wf.cell? ⟨d.b, 0, none⟩ = some (.int .i32 1) := by have := cell_of_heap hA.mem.box (i := 0) rfl; rw [hb2] at this; rw [this]; simp [Hm.head, hmu2]
  have f0l : wf.frozen? ⟨d.b, 0, none⟩ = false := by have := frozen_of_heap hA.mem.box (i := 0); rw [hb2] at this; exact this
  have hun0 := AfterH.heads (d := d2) (d' := { d2 with mu := 0 }) hA.mem rfl rfl rfl rfl rfl rfl (i := 0) (v := .int .i32 0) (by simp [Hm.head])
  have hdb : w.heap.size + 1 ≠ d.b := fun e => Hn.out.1 (w.heap.size + 1) (by omega) (Or.inl e)
  have hdb2 : w.heap.size + 1 + 1 ≠ d.b := fun e => Hn.out.1 (w.heap.size + 1 + 1) (by omega) (Or.inl e)
  obtain ⟨wu, hwu⟩ : ∃ x, x = wf.setCell ⟨d.b, 0, none⟩ (.int .i32 0) := ⟨_, rfl⟩
  have v0 : wu.cell? ⟨w.heap.size + 1, 0, none⟩ = some (.slice a3 r.xs.length c3) := by rw [hwu]; exact cell_of_heap ((heap_setCell_ne _ _ _ _ hdb).trans hvv) rfl
  have v1 : wu.cell? ⟨w.heap.size + 1, 1, none⟩ = some (.string ⟨#[]⟩) := by rw [hwu]; exact cell_of_heap ((heap_setCell_ne _ _ _ _ hdb).trans hvv) rfl
  have e0 : wu.cell? ⟨w.heap.size + 1 + 1, 0, none⟩ = some (.int .i64 0) := by rw [hwu]; exact cell_of_heap ((heap_setCell_ne _ _ _ _ hdb2).trans hee) rfl
  have hi5 : Inp.Ints wu (.slice a3 r.xs.length c3) r.xs := intsKept' hi4 fun g hg => by
    rw [hwu]
    refine heap_setCell_ne _ _ _ _ fun e => ?_
    have ht := tyAt_ints hi4 hg
    have hb := tyAt_cells hA.mem.box
    rw [hb2] at hb
    first | (rw [← e, ht] at hb; cases hb) | (rw [e, ht] at hb; cases hb) | (rw [e, hb] at ht; cases ht)
  have hfin : GetPost p rev q w d (.returned (.tuple #[.agg #[.slice a3 r.xs.length c3, .string ⟨#[]⟩], .int .i64 0])) wu := by
    rw [hwu, ← hb2] at hi5 ⊢
    have hx : r.xs = (RQ p.qs rev p.qs.length d.pl (1, (q : Int), 0)).1.xs := congrArg RR.xs hrp
    refine ⟨{ d2 with mu := 0 }, a3, c3, ?_, hpl, rfl, by rw [hx], by rw [hx] at hi5; exact hi5, HA0.out⟩
    exact ⟨hun0.mem, (hA.trans hun0).chg, (hA.trans hun0).muts, (hA.trans hun0).imm, hb2, HA2.out.comp⟩
  have Hfin := Lib.hid hfin
  clear hfin hun0 hi5 hi4 hvv hee hA
  refine leaves_cons (f := 35) (args := #[.pointer (some ⟨w.heap.size + 1, 0, none⟩), .pointer (some ⟨w.heap.size + 1 + 1, 0, none⟩)]) (by simp) (by simp [go_sem]) ?_
  refine (get1_idle wf _ _).mono ?_
  rintro e u' w'' ⟨rfl, rfl, rfl⟩
  refine leaves_cons (f := 32) (args := #[.pointer (some ⟨d.b, 0, none⟩)]) (by simp [settle]) (by simp [go_sem]) ?_
  refine (unlock_deferred Try.muLib ⟨d.b, 0, none⟩ .returning _ q0l f0l).mono ?_
  rintro e u' w'' ⟨rfl, rfl, rfl⟩
  rw [← hwu]
  simp [Leaves, settle, results, Try.results11, go_sem, v0, v1, e0]
  exact Hfin.out
end Go.Proofs.Ytggiddhhbilcjaa.Sn
