/- The history's methods: New, At, Computations, Discard. -/
import Derived.Test.YtggiddhhbilcjaaSnR
import Derived.Test.YtggiddhhbilcjaaSnMu
namespace Go.Proofs.Ytggiddhhbilcjaa.Sn
open Go.RowKit Go.ChangeMaps Go.MapKept Go.MuLone
set_option linter.unusedVariables false
set_option linter.unusedSimpArgs false
/-- what a method leaves -/
structure AfterH (w w' : World) (d d' : Hm) : Prop where
  mem : HmAt w' d'
  chg : ChgP d.M w w'
  muts : ∀ g, d'.M g → d.M g ∨ w.heap.size ≤ g
  imm : ∀ g, d'.I g → d.I g ∨ w.heap.size ≤ g
  b : d'.b = d.b
  comp : d'.comp = d.comp
section
variable {w w' w1 w2 : World} {d d' d1 d2 : Hm}
theorem AfterH.new (h : HmAt w d) (hc : Chg [] w w') : AfterH w w' d d := ⟨h.new hc, hc.p, fun _ h => .inl h, fun _ h => .inl h, rfl, rfl⟩
theorem AfterH.trans (h : AfterH w w1 d d1) (k : AfterH w1 w2 d1 d2) : AfterH w w2 d d2 :=
  ⟨k.mem, h.chg.comp k.chg h.muts, fun g hg => (k.muts g hg).elim (h.muts g) fun hs => .inr (Nat.le_trans h.chg.size hs), fun g hg => (k.imm g hg).elim (h.imm g) fun hs => .inr (Nat.le_trans h.chg.size hs), k.b.trans h.b, k.comp.trans h.comp⟩
theorem AfterH.thenNew (h : AfterH w w1 d d1) (hc : Chg [] w1 w2) : AfterH w w2 d d1 := h.trans (AfterH.new h.mem hc)
theorem AfterH.other (h : AfterH w w' d d') {g : Nat} (hg : g < w.heap.size) (hn : ¬ d.M g) : w'.heap[g]? = w.heap[g]? ∧ ¬ d'.M g ∧ g < w'.heap.size :=
  ⟨h.chg.block g hg hn, fun hm => (h.muts g hm).elim hn fun hs => absurd hg (Nat.not_lt.2 hs), Nat.lt_of_lt_of_le hg h.chg.size⟩
/-- a change of the struct alone -/
theorem AfterH.heads (h : HmAt w d) (hb : d'.b = d.b) (hbv : d'.bv = d.bv) (hbr : d'.br = d.br) (hV : d'.VL = d.VL) (hR : d'.RL = d.RL) (hcomp : d'.comp = d.comp) {i : Nat} {v : Value} (hh : d.head.setIfInBounds i v = d'.head) : AfterH w (w.setCell ⟨d.b, i, none⟩ v) d d' := by
  refine ⟨h.heads hb hbv hbr hV hR hh, (ChgP.refl d.M w).setCell (p := ⟨d.b, i, none⟩) (Or.inl (Or.inl rfl)) v, fun g hg => Or.inl ?_, fun g hg => Or.inl ?_, hb, hcomp⟩
  · unfold Hm.M at hg ⊢
    rw [hb, hbv, hbr, hV, hR] at hg
    exact hg
  · unfold Hm.I at hg ⊢
    rw [hV, hR] at hg
    exact hg
end
def HS.empty : HS := ⟨fun _ => [], fun _ => [], 0, 0, 0⟩
set_option maxRecDepth 100000 in
set_option maxHeartbeats 1000000 in
theorem snNew_any (f : Nat) (caps : Array Value) (w : World) : Calls Try.prog 29 #[.func (.func f) #[] caps] w fun e w' => ∃ d, e = .returned (.pointer (some ⟨d.b, 0, none⟩)) ∧ HmAt w' d ∧ d.pl = HS.empty ∧ d.comp = .func (.func f) #[] caps ∧ d.mu = 0 ∧ Chg [] w w' ∧ d.RL = [] ∧ ∀ g, (d.M g ∨ d.I g) → w.heap.size ≤ g := by
  have hmm := @run_makeMap Try.prog
  have heq := run_eql_func_nil (P := Try.prog) w _ _ _ _ (.func f) #[] caps Try.underlying62
  go_enter Try.func29, Try.ntmps29
  go_wp2_with fail
  go_ret
  have hs2 : (w.alloc (.map #[] 0)).heap.size = w.heap.size + 1 := by simp
  have m1 : MapAt Try.prog 43 Inp.qk (w.alloc (.map #[] 0)) w.heap.size [] := MapAt.made Try.prog 43 Inp.qk w
  have m2 := MapAt.made Try.prog 43 Inp.qk (w.alloc (.map #[] 0))
  rw [hs2] at m2
  obtain ⟨o, ho⟩ : ∃ o : Obj, o = .cells #[.int .i32 0, .int .u32 0, .func (.func f) #[] caps, .map (some w.heap.size), .map (some (w.heap.size + 1)), .int .i64 0, .int .i64 0, .int .i64 0] 80 := ⟨_, rfl⟩
  rw [← ho]
  have hc3 := (((Chg.refl [] w).alloc (.map #[] 0)).alloc (.map #[] 0)).alloc o
  refine ⟨⟨w.heap.size + 1 + 1, w.heap.size, w.heap.size + 1, .func (.func f) #[] caps, 0, [], [], 0, 0, 0⟩, rfl, ⟨?_, ⟨?_, fun x => World.ownsRow_nil _ _ _ _, fun x y _ g hg => by simp [gV, aget, Value.ownBlock] at hg⟩, ⟨?_, fun x => World.ownsRow_nil _ _ _ _, fun x y _ g hg => by simp [gV, aget, Value.ownBlock] at hg⟩, fun x e he => by simp [gL, aget] at he, fun x r hr => by simp [gL, aget] at hr, fun x y i j r r' h => by simp [gL, aget] at h, ?_⟩, ?_, rfl, rfl, hc3, rfl, ?_⟩
  · rw [ho]; exact heap_at _ _ _ (by simp)
  · exact (m1.kept ((Chg.refl [] _).alloc (.map #[] 0)) (by simp)).kept ((Chg.refl [] _).alloc o) (by simp)
  · exact m2.kept ((Chg.refl [] _).alloc o) (by simp)
  · simp
  · unfold Hm.pl HS.empty
    simp [gL, aget]
  · intro g hg
    rcases hg with (rfl | rfl | rfl | ⟨x, hx⟩ | ⟨x, hx⟩ | ⟨x, r, hr, _⟩) | ⟨x, e, he, _⟩ | ⟨x, r, hr, _⟩
    · simp only; omega
    · simp only; omega
    · simp only; omega
    · simp [gV, aget, Value.ownBlock] at hx
    · simp [gV, aget, Value.ownBlock] at hx
    · simp [gL, aget] at hr
    · simp [gL, aget] at he
    · simp [gL, aget] at hr
def AtPost (d : Hm) (rev : Int) (w : World) (e : Ending) (w' : World) : Prop :=
  AfterH w w' d d ∧ ((d.old ≤ rev ∧ rev ≤ d.lat ∧ ∃ sb, e = .returned (.tuple #[.pointer (some ⟨sb, 0, none⟩), .int .i64 0]) ∧ w.heap.size ≤ sb ∧ w'.heap[sb]? = some (.cells #[.pointer (some ⟨d.b, 0, none⟩), .int .i64 rev] 82 (0, 0))) ∨ (¬ (d.old ≤ rev ∧ rev ≤ d.lat) ∧ e = .returned (.tuple #[.pointer none, .int .i64 5])))
theorem lock_after {w : World} {d : Hm} (h : HmAt w d) (hmu : d.mu = 0) : AfterH w (w.setCell ⟨d.b, 0, none⟩ (.int .i32 1)) d { d with mu := 1 } := AfterH.heads (d' := { d with mu := 1 }) h rfl rfl rfl rfl rfl rfl (i := 0) (v := .int .i32 1) (by simp [Hm.head])
theorem unlock_after {w : World} {d : Hm} (h : HmAt w { d with mu := 1 }) (hmu : d.mu = 0) : AfterH w (w.setCell ⟨d.b, 0, none⟩ (.int .i32 0)) { d with mu := 1 } d := AfterH.heads (d := { d with mu := 1 }) (d' := d) h rfl rfl rfl rfl rfl rfl (i := 0) (v := .int .i32 0) (by simp [Hm.head, hmu])
set_option maxRecDepth 100000 in
set_option maxHeartbeats 2000000 in
theorem at_any (w : World) (d : Hm) (rev : Int) (h : HmAt w d) (hmu : d.mu = 0) :
    Calls Try.prog 10 #[.pointer (some ⟨d.b, 0, none⟩), .int .i64 rev] w (AtPost d rev w) := by
  have q0 : w.cell? ⟨d.b, 0, none⟩ = some (.int .i32 0) := by have := cell_of_heap h.box (i := 0) rfl; rw [this]; simp [Hm.head, hmu]
  have f0 := frozen_of_heap h.box (i := 0)
  have hl := lock_after h hmu
  obtain ⟨wl, hwl⟩ : ∃ x, x = w.setCell ⟨d.b, 0, none⟩ (.int .i32 1) := ⟨_, rfl⟩
  have lb := lt_of_obj h.box
  rw [← hwl] at hl
  have q5 : wl.cell? ⟨d.b, 5, none⟩ = some (.int .i64 d.lat) := cell_of_heap hl.mem.box rfl
  have q6 : wl.cell? ⟨d.b, 6, none⟩ = some (.int .i64 d.old) := cell_of_heap hl.mem.box rfl
  have hlock : Calls Try.prog 31 #[.pointer (some ⟨d.b, 0, none⟩)] w fun e w' => e = .returned (.tuple #[]) ∧ w' = wl := (lock_free Try.muLib ⟨d.b, 0, none⟩ _ q0 f0).mono fun e w' h => ⟨h.1, h.2.trans hwl.symm⟩
  have Hl := Lib.hid hl
  have Hlock := Lib.hid hlock
  have q0l : wl.cell? ⟨d.b, 0, none⟩ = some (.int .i32 1) := cell_of_heap hl.mem.box rfl
  have f0l := frozen_of_heap hl.mem.box (i := 0)
  clear h hl hwl hlock q0 f0
  by_cases h1 : rev < d.old
  · go_enter_defers Try.func10, Try.ntmps10
    go_wp2_with (go_at_call 31; refine Hlock.out.mono ?_; rintro e w1 ⟨rfl, rfl⟩)
    refine leaves_cons (f := 32) (args := #[.pointer (some ⟨d.b, 0, none⟩)]) (by simp) (by simp [go_sem]) ?_
    refine (unlock_deferred Try.muLib ⟨d.b, 0, none⟩ .returning _ q0l f0l).mono ?_
    rintro e u' w'' ⟨rfl, rfl, rfl⟩
    exact ⟨_, results_tmp2 rfl _ _ _, Hl.out.trans (unlock_after Hl.out.mem hmu), Or.inr ⟨fun h => by omega, rfl⟩⟩
  · by_cases h2 : d.lat < rev
    · go_enter_defers Try.func10, Try.ntmps10
      go_wp2_with (go_at_call 31; refine Hlock.out.mono ?_; rintro e w1 ⟨rfl, rfl⟩)
      refine leaves_cons (f := 32) (args := #[.pointer (some ⟨d.b, 0, none⟩)]) (by simp) (by simp [go_sem]) ?_
      refine (unlock_deferred Try.muLib ⟨d.b, 0, none⟩ .returning _ q0l f0l).mono ?_
      rintro e u' w'' ⟨rfl, rfl, rfl⟩
      exact ⟨_, results_tmp2 rfl _ _ _, Hl.out.trans (unlock_after Hl.out.mem hmu), Or.inr ⟨fun h => by omega, rfl⟩⟩
    · go_enter_defers Try.func10, Try.ntmps10
      go_wp2_with (go_at_call 31; refine Hlock.out.mono ?_; rintro e w1 ⟨rfl, rfl⟩)
      obtain ⟨o, ho⟩ : ∃ o : Obj, o = .cells #[.pointer (some ⟨d.b, 0, none⟩), .int .i64 rev] 82 := ⟨_, rfl⟩
      rw [← ho]
      have hca := (Chg.refl [] w1).alloc o
      have hn := Hl.out.thenNew hca
      refine leaves_cons (f := 32) (args := #[.pointer (some ⟨d.b, 0, none⟩)]) (by simp) (by simp [go_sem]) ?_
      refine (unlock_deferred Try.muLib ⟨d.b, 0, none⟩ .returning _ ((hca.cell (lt_of_cell q0l) (by simp)).trans q0l) ((hca.frozen (p := ⟨d.b, 0, none⟩) (lt_of_cell q0l) (by simp)).trans f0l)).mono ?_
      rintro e u' w'' ⟨rfl, rfl, rfl⟩
      refine ⟨_, results_tmp2 rfl _ _ _, hn.trans (unlock_after hn.mem hmu), Or.inl ⟨by omega, by omega, w1.heap.size, rfl, Hl.out.chg.size, ?_⟩⟩
      rw [heap_setCell_ne _ _ _ _ (show w1.heap.size ≠ d.b by have := lt_of_cell q0l; simp only at this; omega), heap_at _ _ _ rfl, ho]
set_option maxRecDepth 100000 in
set_option maxHeartbeats 2000000 in
theorem comps_any (w : World) (d : Hm) (h : HmAt w d) (hmu : d.mu = 0) :
    Calls Try.prog 19 #[.pointer (some ⟨d.b, 0, none⟩)] w fun e w' => e = .returned (.int .i64 d.cnt) ∧ AfterH w w' d d := by
  have q0 : w.cell? ⟨d.b, 0, none⟩ = some (.int .i32 0) := by have := cell_of_heap h.box (i := 0) rfl; rw [this]; simp [Hm.head, hmu]
  have f0 := frozen_of_heap h.box (i := 0)
  have hl := lock_after h hmu
  obtain ⟨wl, hwl⟩ : ∃ x, x = w.setCell ⟨d.b, 0, none⟩ (.int .i32 1) := ⟨_, rfl⟩
  rw [← hwl] at hl
  have q7 : wl.cell? ⟨d.b, 7, none⟩ = some (.int .i64 d.cnt) := cell_of_heap hl.mem.box rfl
  have hlock : Calls Try.prog 31 #[.pointer (some ⟨d.b, 0, none⟩)] w fun e w' => e = .returned (.tuple #[]) ∧ w' = wl := (lock_free Try.muLib ⟨d.b, 0, none⟩ _ q0 f0).mono fun e w' h => ⟨h.1, h.2.trans hwl.symm⟩
  have Hl := Lib.hid hl
  have Hlock := Lib.hid hlock
  have q0l : wl.cell? ⟨d.b, 0, none⟩ = some (.int .i32 1) := cell_of_heap hl.mem.box rfl
  have f0l := frozen_of_heap hl.mem.box (i := 0)
  clear h hl hwl hlock q0 f0
  go_enter_defers Try.func19, Try.ntmps19
  go_wp2_with (go_at_call 31; refine Hlock.out.mono ?_; rintro e w1 ⟨rfl, rfl⟩)
  refine leaves_cons (f := 32) (args := #[.pointer (some ⟨d.b, 0, none⟩)]) (by simp) (by simp [go_sem]) ?_
  refine (unlock_deferred Try.muLib ⟨d.b, 0, none⟩ .returning _ q0l f0l).mono ?_
  rintro e u' w'' ⟨rfl, rfl, rfl⟩
  exact ⟨_, results_tmp rfl _ _ _, rfl, Hl.out.trans (unlock_after Hl.out.mem hmu)⟩
end Go.Proofs.Ytggiddhhbilcjaa.Sn
