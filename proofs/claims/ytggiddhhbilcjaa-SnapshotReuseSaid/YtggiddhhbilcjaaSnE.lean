/- An evaluation in memory: its struct, the active keys; a result under way. -/
import Derived.Test.YtggiddhhbilcjaaSnA
namespace Go.Proofs.Ytggiddhhbilcjaa.Sn
open Go.RowKit Go.ChangeMaps Go.MapKept
set_option linter.unusedVariables false
set_option linter.unusedSimpArgs false
/-- what an evaluation writes -/
def EM (d : Hm) (be : Nat) (av : Value) (g : Nat) : Prop := d.M g ∨ g = be ∨ av.ownBlock = some g
structure EvAt (be : Nat) (rev : Int) (A : List QK) (w : World) (d : Hm) (av : Value) : Prop where
  mem : HmAt w d
  ev : w.heap[be]? = some (.cells #[.pointer (some ⟨d.b, 0, none⟩), .int .i64 rev, av] 91 (0, 0))
  row : w.ownsRow 0 43 3 av A.length (flat3 A)
  off : ∀ g, av.ownBlock = some g → ¬ d.I g
section
variable {be : Nat} {rev : Int} {A : List QK} {w w' w1 w2 : World} {d d' d1 d2 : Hm} {av av' av1 av2 : Value}
theorem EvAt.ty (h : EvAt be rev A w d av) {g : Nat} (hg : EM d be av g) : (∃ t ∈ histTys, tyAt w g = some t) ∨ tyAt w g = some (some 91) ∨ tyAt w g = some (some 43) := by
  rcases hg with hg | rfl | hg
  · exact Or.inl (h.mem.tyM hg)
  · exact Or.inr (Or.inl (tyAt_cells h.ev))
  · exact Or.inr (Or.inr (tyAt_own h.row hg))
theorem EvAt.lt (h : EvAt be rev A w d av) {g : Nat} (hg : EM d be av g) : g < w.heap.size := by
  rcases h.ty hg with ⟨t, _, h⟩ | h | h <;> exact tyAt_lt h
theorem EvAt.neTy (h : EvAt be rev A w d av) {t : Option TypeId} {g : Nat} (ht : tyAt w g = some t) (h1 : histTys.contains t = false) (h2 : t ≠ some 91) (h3 : t ≠ some 43) : ¬ EM d be av g := fun hg => by
  rcases h.ty hg with ⟨t', hm, e⟩ | e | e
  · rw [ht] at e; cases e; simp [hm] at h1
  · rw [ht] at e; cases e; exact h2 rfl
  · rw [ht] at e; cases e; exact h3 rfl
theorem EvAt.apart (h : EvAt be rev A w d av) {g : Nat} (hg : d.I g) : ¬ EM d be av g := by
  rintro (hm | rfl | hm)
  · exact h.mem.apart hg hm
  · rcases h.mem.tyI hg with e | e
    · rw [tyAt_cells h.ev] at e; cases e
    · rw [tyAt_cells h.ev] at e; cases e
  · exact h.off g hm hg
theorem EvAt.kept {S : Nat → Prop} (h : EvAt be rev A w d av) (hc : ChgP S w w') (hm : ∀ g, EM d be av g → ¬ S g) (hi : ∀ g, d.I g → ¬ S g) : EvAt be rev A w' d av :=
  ⟨h.mem.kept hc (fun g hg => hm g (Or.inl hg)) hi, (hc.block _ (lt_of_obj h.ev) (hm _ (Or.inr (Or.inl rfl)))).trans h.ev, ownsRow_kept h.row fun g hg hl => hc.block g hl (hm g (Or.inr (Or.inr hg))), h.off⟩
theorem EvAt.new (h : EvAt be rev A w d av) (hc : Chg [] w w') : EvAt be rev A w' d av := h.kept (S := fun _ => False) hc.p (fun _ _ h => h) (fun _ _ h => h)
/-- what an evaluation leaves -/
structure NextE (be : Nat) (rev : Int) (A : List QK) (w w' : World) (d : Hm) (av : Value) (d' : Hm) (av' : Value) : Prop where
  at_ : EvAt be rev A w' d' av'
  chg : ChgP (EM d be av) w w'
  muts : ∀ g, EM d' be av' g → EM d be av g ∨ w.heap.size ≤ g
  imm : ∀ g, d'.I g → d.I g ∨ w.heap.size ≤ g
  b : d'.b = d.b
  comp : d'.comp = d.comp
  mu : d'.mu = d.mu
theorem NextE.new (h : EvAt be rev A w d av) (hc : Chg [] w w') : NextE be rev A w w' d av d av := ⟨h.new hc, hc.p, fun _ h => .inl h, fun _ h => .inl h, rfl, rfl, rfl⟩
theorem NextE.refl (h : EvAt be rev A w d av) : NextE be rev A w w d av d av := NextE.new h (Chg.refl _ _)
theorem NextE.trans (h : NextE be rev A w w1 d av d1 av1) (k : NextE be rev A w1 w2 d1 av1 d2 av2) : NextE be rev A w w2 d av d2 av2 where
  at_ := k.at_
  chg := h.chg.comp k.chg h.muts
  muts g hg := (k.muts g hg).elim (h.muts g) fun hs => .inr (Nat.le_trans h.chg.size hs)
  imm g hg := (k.imm g hg).elim (h.imm g) fun hs => .inr (Nat.le_trans h.chg.size hs)
  b := k.b.trans h.b
  comp := k.comp.trans h.comp
  mu := k.mu.trans h.mu
theorem NextE.thenNew (h : NextE be rev A w w1 d av d1 av1) (hc : Chg [] w1 w2) : NextE be rev A w w2 d av d1 av1 := h.trans (NextE.new h.at_ hc)
theorem NextE.other (h : NextE be rev A w w' d av d' av') {g : Nat} (hg : g < w.heap.size) (hn : ¬ EM d be av g) : w'.heap[g]? = w.heap[g]? ∧ ¬ EM d' be av' g ∧ g < w'.heap.size :=
  ⟨h.chg.block g hg hn, fun hm => (h.muts g hm).elim hn fun hs => absurd hg (Nat.not_lt.2 hs), Nat.lt_of_lt_of_le hg h.chg.size⟩
/-- the ground of an evaluation: blocks that nobody writes -/
structure EnvE (w0 : World) (RO : Nat → Prop) (be : Nat) (rev : Int) (A : List QK) (w : World) (d : Hm) (av : Value) : Prop where
  at_ : EvAt be rev A w d av
  ro : ∀ g, RO g → g < w.heap.size ∧ w.heap[g]? = w0.heap[g]? ∧ ¬ EM d be av g
theorem EnvE.next {w0 : World} {RO : Nat → Prop} (h : EnvE w0 RO be rev A w d av) (k : NextE be rev A w w' d av d' av') : EnvE w0 RO be rev A w' d' av' :=
  ⟨k.at_, fun g hg => by
    obtain ⟨h1, h2, h3⟩ := h.ro g hg
    obtain ⟨k1, k2, k3⟩ := k.other h1 h3
    exact ⟨k3, k1.trans h2, k2⟩⟩
theorem EnvE.new {w0 : World} {RO : Nat → Prop} (h : EnvE w0 RO be rev A w d av) (hc : Chg [] w w') : EnvE w0 RO be rev A w' d av := h.next (NextE.new h.at_ hc)
end
/-- the plain state, fit for an evaluation -/
structure StOk (p : Prg) (rev : Int) (s : HS) : Prop where
  inv : HInv p s
  r0 : 0 ≤ rev
  r1 : rev ≤ s.lat
  few : s.lat ≤ 100000
theorem StOk.stp {p : Prg} {rev : Int} {s s' : HS} (h : StOk p rev s) (k : Stp p rev s s') : StOk p rev s' := ⟨k.inv, h.r0, by rw [k.lat]; exact h.r1, by rw [k.lat]; exact h.few⟩
def ActOk (q : Nat) (A : List QK) : Prop := (∀ x ∈ A, ∃ q' : Nat, x = (1, (q' : Int), 0) ∧ q < q') ∧ A.length + q ≤ 100
/-- what result brings -/
def UPost (U : HS → QK → RR × HS) (be : Nat) (rev : Int) (A : List QK) (k : QK) (w : World) (d : Hm) (av : Value) (e : Ending) (w' : World) : Prop :=
  ∃ d' av' r, NextE be rev A w w' d av d' av' ∧ d'.pl = (U d.pl k).2 ∧ r.pl = (U d.pl k).1 ∧ r ∈ gL d'.RL k ∧ e = .returned r.val
def EvalFam (p : Prg) (w0 : World) (RO : Nat → Prop) (be : Nat) (rev : Int) (comp : Value) (n : Nat) : Prop :=
  ∀ w d av A (q : Nat), q < n → q < p.qs.length → EnvE w0 RO be rev A w d av → d.comp = comp → StOk p rev d.pl → ActOk q A →
    Calls Try.prog 36 #[.pointer (some ⟨be, 0, none⟩), i3v (1, (q : Int), 0)] w (UPost (RQ p.qs rev n) be rev A (1, (q : Int), 0) w d av)
/-! ### a get under way -/
structure GAt (p : Prg) (w0 : World) (RO : Nat → Prop) (be : Nat) (rev : Int) (A : List QK) (ws : World) (ds : Hm) (sv : Value) (cev cadd cr rb : Nat) (σ : GT) (w : World) (d : Hm) (av iv : Value) : Prop where
  env : EnvE w0 RO be rev A w d av
  next : NextE be rev A ws w ds sv d av
  pl : d.pl = σ.1
  st : StOk p rev σ.1
  bev : w.heap[cev]? = some (.cells #[.pointer (some ⟨be, 0, none⟩)] 88 (0, 0))
  badd : w.heap[cadd]? = some (.cells #[.func (.func 88) #[] #[.pointer (some ⟨cr, 0, none⟩)]] 165 (0, 0))
  rba : RbAt w cr rb σ.2.1 σ.2.2.1 iv σ.2.2.2
  ink : ∀ k ∈ σ.2.2.2, InK p k
  nd : σ.2.2.2.Nodup
  off : ∀ g, (g = cr ∨ g = rb ∨ iv.ownBlock = some g) → ¬ EM d be av g ∧ ¬ d.I g
  new : ∀ g, (g = rb ∨ iv.ownBlock = some g) → ¬ RO g ∧ ws.heap.size ≤ g
def GRO (RO : Nat → Prop) (cev cadd cr : Nat) : Nat → Prop := fun g => RO g ∨ g = cev ∨ g = cadd ∨ g = cr
def GFree (be : Nat) (ws : World) (rb : Nat) (d : Hm) (av iv : Value) (F : Nat → Prop) : Prop := ∀ g, F g → ws.heap.size ≤ g ∧ ¬ EM d be av g ∧ ¬ d.I g ∧ g ≠ rb ∧ iv.ownBlock ≠ some g
def GI (p : Prg) (w0 : World) (RO : Nat → Prop) (be : Nat) (rev : Int) (A : List QK) (ws : World) (ds : Hm) (sv : Value) (cev cadd cr rb : Nat) (F : Nat → Prop) (σ : GT) (w : World) : Prop :=
  ∃ d av iv, GAt p w0 RO be rev A ws ds sv cev cadd cr rb σ w d av iv ∧ GFree be ws rb d av iv F ∧ ∀ g, F g → g < w.heap.size
section
variable {p : Prg} {w0 : World} {RO : Nat → Prop} {be : Nat} {rev : Int} {A : List QK} {ws : World} {ds : Hm} {sv : Value} {cev cadd cr rb : Nat} {σ : GT} {w w' : World} {d d' : Hm} {av av' iv iv' : Value} {F F' : Nat → Prop}
theorem GAt.tyev (h : GAt p w0 RO be rev A ws ds sv cev cadd cr rb σ w d av iv) : ¬ EM d be av cev ∧ ¬ EM d be av cadd :=
  ⟨h.env.at_.neTy (tyAt_cells h.bev) (by decide) (by decide) (by decide), h.env.at_.neTy (tyAt_cells h.badd) (by decide) (by decide) (by decide)⟩
theorem GAt.nes (h : GAt p w0 RO be rev A ws ds sv cev cadd cr rb σ w d av iv) : (cev ≠ rb ∧ iv.ownBlock ≠ some cev) ∧ (cadd ≠ rb ∧ iv.ownBlock ≠ some cadd) ∧ cr ≠ rb ∧ iv.ownBlock ≠ some cr := by
  have e1 := tyAt_cells h.bev
  have e2 := tyAt_cells h.badd
  have e3 := tyAt_cells h.rba.res
  refine ⟨⟨fun e => ?_, fun e => ?_⟩, ⟨fun e => ?_, fun e => ?_⟩, h.rba.ne, fun e => (h.rba.own e).1 rfl⟩
  · rw [← e, e1] at e3; cases e3
  · rw [tyAt_own h.rba.row e] at e1; cases e1
  · rw [← e, e2] at e3; cases e3
  · rw [tyAt_own h.rba.row e] at e2; cases e2
theorem GAt.kept {S : Nat → Prop} (h : GAt p w0 RO be rev A ws ds sv cev cadd cr rb σ w d av iv) (hc : ChgP S w w') (hm : ∀ g, EM d be av g → ¬ S g) (hi : ∀ g, d.I g → ¬ S g) (hr : ∀ g, GRO RO cev cadd cr g → ¬ S g) (h1 : ¬ S rb) (h2 : ∀ g, iv.ownBlock = some g → ¬ S g) (hs : ∀ g, S g → ws.heap.size ≤ g) : GAt p w0 RO be rev A ws ds sv cev cadd cr rb σ w' d av iv := by
  refine ⟨⟨h.env.at_.kept hc hm hi, fun g hg => ?_⟩, ?_, h.pl, h.st, ?_, ?_, h.rba.kept hc (hr _ (Or.inr (Or.inr (Or.inr rfl)))) h1 h2, h.ink, h.nd, h.off, h.new⟩
  · obtain ⟨x1, x2, x3⟩ := h.env.ro g hg
    exact ⟨Nat.lt_of_lt_of_le x1 hc.size, (hc.block g x1 (hr g (Or.inl hg))).trans x2, x3⟩
  · exact ⟨h.env.at_.kept hc hm hi, h.next.chg.comp hc fun g hg => Or.inr (hs g hg), h.next.muts, h.next.imm, h.next.b, h.next.comp, h.next.mu⟩
  · exact (hc.block _ (lt_of_obj h.bev) (hr _ (Or.inr (Or.inl rfl)))).trans h.bev
  · exact (hc.block _ (lt_of_obj h.badd) (hr _ (Or.inr (Or.inr (Or.inl rfl))))).trans h.badd
theorem GAt.newW (h : GAt p w0 RO be rev A ws ds sv cev cadd cr rb σ w d av iv) (hc : Chg [] w w') : GAt p w0 RO be rev A ws ds sv cev cadd cr rb σ w' d av iv :=
  h.kept (S := fun _ => False) hc.p (fun _ _ h => h) (fun _ _ h => h) (fun _ _ h => h) (fun h => h) (fun _ _ h => h) (fun _ h => h.elim)
theorem GI.keep (h : GI p w0 RO be rev A ws ds sv cev cadd cr rb F σ w) (hc : ChgP (fun k => F k ∧ ¬ GRO RO cev cadd cr k) w w') : GI p w0 RO be rev A ws ds sv cev cadd cr rb (fun k => F k ∨ (w.heap.size ≤ k ∧ k < w'.heap.size)) σ w' := by
  obtain ⟨d, av, iv, h, hF, hl⟩ := h
  refine ⟨d, av, iv, h.kept hc (fun g hg hf => (hF g hf.1).2.1 hg) (fun g hg hf => (hF g hf.1).2.2.1 hg) (fun g hg hf => hf.2 hg) (fun hf => (hF _ hf.1).2.2.2.1 rfl) (fun g hg hf => (hF g hf.1).2.2.2.2 hg) (fun g hg => (hF g hg.1).1), fun g hg => ?_, fun g hg => hg.elim (fun h => Nat.lt_of_lt_of_le (hl g h) hc.size) fun h => h.2⟩
  rcases hg with hg | ⟨hg, _⟩
  · exact hF g hg
  · have h1 := h.next.chg.size
    exact ⟨by omega, fun hm => by have := h.env.at_.lt hm; omega, fun hm => by have := h.env.at_.mem.ltI hm; omega, fun e => by have := lt_of_obj h.rba.res; omega, fun hm => by have := (h.rba.own hm).2.2; omega⟩
theorem GI.anti (h : GI p w0 RO be rev A ws ds sv cev cadd cr rb F σ w) (hF : ∀ k, F' k → F k) : GI p w0 RO be rev A ws ds sv cev cadd cr rb F' σ w := by
  obtain ⟨d, av, iv, h, h2, h3⟩ := h
  exact ⟨d, av, iv, h, fun g hg => h2 g (hF g hg), fun g hg => h3 g (hF g hg)⟩
theorem GI.ro (h : GI p w0 RO be rev A ws ds sv cev cadd cr rb F σ w) : ∀ k, GRO RO cev cadd cr k → k < w.heap.size := by
  obtain ⟨d, av, iv, h, h2⟩ := h
  intro k hk
  rcases hk with hk | rfl | rfl | rfl
  · exact (h.env.ro k hk).1
  · exact lt_of_obj h.bev
  · exact lt_of_obj h.badd
  · exact lt_of_obj h.rba.bre
/-- the evaluation went on -/
theorem GAt.go (h : GAt p w0 RO be rev A ws ds sv cev cadd cr rb σ w d av iv) (hn : NextE be rev A w w' d av d' av') (hst : StOk p rev d'.pl) : GAt p w0 RO be rev A ws ds sv cev cadd cr rb (d'.pl, σ.2) w' d' av' iv := by
  obtain ⟨n1, n2⟩ := h.tyev
  have hlt : ∀ g, (g = cr ∨ g = rb ∨ iv.ownBlock = some g) → g < w.heap.size := by
    rintro g (rfl | rfl | hg)
    · exact lt_of_obj h.rba.bre
    · exact lt_of_obj h.rba.res
    · exact (h.rba.own hg).2.2
  refine ⟨h.env.next hn, h.next.trans hn, rfl, hst, (hn.other (lt_of_obj h.bev) n1).1.trans h.bev, (hn.other (lt_of_obj h.badd) n2).1.trans h.badd, h.rba.kept hn.chg (h.off _ (Or.inl rfl)).1 (h.off _ (Or.inr (Or.inl rfl))).1 (fun g hg => (h.off g (Or.inr (Or.inr hg))).1), h.ink, h.nd, fun g hg => ⟨(hn.other (hlt g hg) (h.off g hg).1).2.1, fun hi => (hn.imm g hi).elim (h.off g hg).2 fun hs => by have := hlt g hg; omega⟩, h.new⟩
theorem GFree.go (h : GAt p w0 RO be rev A ws ds sv cev cadd cr rb σ w d av iv) (hF : GFree be ws rb d av iv F) (hl : ∀ g, F g → g < w.heap.size) (hn : NextE be rev A w w' d av d' av') : GFree be ws rb d' av' iv F := fun g hg => by
  obtain ⟨h1, h2, h3, h4⟩ := hF g hg
  exact ⟨h1, (hn.other (hl g hg) h2).2.1, fun hm => (hn.imm g hm).elim h3 fun hs => by have := hl g hg; omega, h4⟩
/-- the result under way has changed -/
theorem GAt.upd {s : HS} {f l f' l' : Int} {ins ins' : List QK} (h : GAt p w0 RO be rev A ws ds sv cev cadd cr rb (s, f, l, ins) w d av iv) (hr : RbAt w' cr rb f' l' iv' ins') (hc : ChgP (fun g => g = rb ∨ iv.ownBlock = some g) w w') (hn : ∀ g, iv'.ownBlock = some g → iv.ownBlock = some g ∨ w.heap.size ≤ g) (hk : ∀ k ∈ ins', InK p k) (hnd : ins'.Nodup) :
    GAt p w0 RO be rev A ws ds sv cev cadd cr rb (s, f', l', ins') w' d av iv' := by
  have hno : ∀ g, (g = rb ∨ iv.ownBlock = some g) → ¬ EM d be av g ∧ ¬ d.I g := fun g hg => h.off g (Or.inr hg)
  obtain ⟨⟨a1, a2⟩, ⟨b1, b2⟩, _⟩ := h.nes
  have hev := h.env.at_.kept hc (fun g hg hs => (hno g hs).1 hg) (fun g hg hs => (hno g hs).2 hg)
  have hsz := h.next.chg.size
  refine ⟨⟨hev, fun g hg => ?_⟩, ⟨hev, h.next.chg.comp hc fun g hg => Or.inr (h.new g hg).2, h.next.muts, h.next.imm, h.next.b, h.next.comp, h.next.mu⟩, h.pl, h.st, (hc.block _ (lt_of_obj h.bev) (fun e => e.elim a1 a2)).trans h.bev, (hc.block _ (lt_of_obj h.badd) (fun e => e.elim b1 b2)).trans h.badd, hr, hk, hnd, fun g hg => ?_, fun g hg => ?_⟩
  · obtain ⟨x1, x2, x3⟩ := h.env.ro g hg
    exact ⟨Nat.lt_of_lt_of_le x1 hc.size, (hc.block g x1 fun e => (h.new g e).1 hg).trans x2, x3⟩
  · rcases hg with hg | hg | hg
    · exact h.off g (Or.inl hg)
    · exact h.off g (Or.inr (Or.inl hg))
    · rcases hn g hg with e | e
      · exact h.off g (Or.inr (Or.inr e))
      · exact ⟨fun hm => by have := h.env.at_.lt hm; omega, fun hm => by have := h.env.at_.mem.ltI hm; omega⟩
  · rcases hg with hg | hg
    · exact h.new g (Or.inl hg)
    · rcases hn g hg with e | e
      · exact h.new g (Or.inr e)
      · exact ⟨fun hr => by have := (h.env.ro g hr).1; omega, by omega⟩
theorem GFree.upd (hF : GFree be ws rb d av iv F) (hl : ∀ g, F g → g < w.heap.size) (hn : ∀ g, iv'.ownBlock = some g → iv.ownBlock = some g ∨ w.heap.size ≤ g) : GFree be ws rb d av iv' F := fun g hg => by
  obtain ⟨h1, h2, h3, h4, h5⟩ := hF g hg
  exact ⟨h1, h2, h3, h4, fun e => (hn g e).elim h5 fun hs => by have := hl g hg; omega⟩
/-- what a get changes is nobody's -/
theorem GAt.mine (h : GAt p w0 RO be rev A ws ds sv cev cadd cr rb σ w d av iv) (hF : GFree be ws rb d av iv F) : ∀ g, (EM d be av g ∨ g = rb ∨ iv.ownBlock = some g) → ¬ F g ∧ ¬ GRO RO cev cadd cr g := by
  obtain ⟨⟨a1, a2⟩, ⟨b1, b2⟩, c1, c2⟩ := h.nes
  intro g hg
  refine ⟨fun hf => ?_, fun hr => ?_⟩
  · obtain ⟨h1, h2, h3, h4, h5⟩ := hF g hf
    rcases hg with hg | hg | hg
    · exact h2 hg
    · exact h4 hg
    · exact h5 hg
  · rcases hg with hg | hg | hg
    · rcases hr with hr | rfl | rfl | rfl
      · exact (h.env.ro g hr).2.2 hg
      · exact h.tyev.1 hg
      · exact h.tyev.2 hg
      · exact (h.off _ (Or.inl rfl)).1 hg
    · rcases hr with hr | hr | hr | hr
      · exact (h.new g (Or.inl hg)).1 hr
      · exact a1 (hr.symm.trans hg)
      · exact b1 (hr.symm.trans hg)
      · exact c1 (hr.symm.trans hg)
    · rcases hr with hr | rfl | rfl | rfl
      · exact (h.new g (Or.inr hg)).1 hr
      · exact a2 hg
      · exact b2 hg
      · exact c2 hg
end
end Go.Proofs.Ytggiddhhbilcjaa.Sn
