/- cancel.Get. -/
import Derived.Test.YtdeodcomlakpaaaGm
import Derived.Test.YtdeodcomlakpaaaTok
namespace Go.Proofs.Ytdeodcomlakpaaa
open Go.RowKit Go.ChangeMaps Go.MapKept
set_option linter.unusedVariables false
set_option linter.unusedSimpArgs false
theorem enterCan (args : Array Value) (w : World) : (callFunc 37 args).run Try.prog w = .ok (.enter 37 args) w := by go_simp
theorem stopTok {w0 : World} {RO : Nat → Prop} {b g : Nat} {v : Int} (hg : RO g) (h0 : w0.heap[g]? = some (tokObj v)) : SFam w0 RO b 37 #[.pointer (some ⟨g, 0, none⟩)] #[] (fun _ => !decide (v = 0)) :=
  ⟨enterCan, fun w d he => (tokCanceled w g v (cell_of_heap ((he.ro g hg).2.1.trans h0) rfl)).mono fun e w' ⟨h1, h2⟩ => ⟨h1, by rw [h2]; exact Chg.refl _ _⟩⟩
theorem stopNil {w0 : World} {RO : Nat → Prop} {b : Nat} : SFam w0 RO b 37 #[.pointer none] #[] (fun _ => false) :=
  ⟨enterCan, fun w d he => (nilCanceled w).mono fun e w' ⟨h1, h2⟩ => ⟨h1, by rw [h2]; exact Chg.refl _ _⟩⟩
variable {p : Prg} {wb : World} {b gi n q : Nat} {w w' : World} {d : Dm} {ins : List Int}
/-- GetUntil, over a stop function that reads blocks which nobody writes -/
theorem DbF.untilS (hp : PrgOk p) (h : DbF p wb b w d) {stp : PS → Bool} (S : Nat → Prop) (hS : ∀ g, S g → g < w.heap.size ∧ g ∉ d.muts b) (sf : Nat) (sfirst scaps : Array Value) (hs : ∀ RO : Nat → Prop, (∀ g, S g → RO g) → SFam w RO b sf sfirst scaps stp) (hq : q < p.qs.length) :
    Calls Try.prog 34 #[.pointer (some ⟨b, 0, none⟩), i3v (1, (q : Int), 0), .func (.func sf) sfirst scaps] w (GetPostF p stp wb b (1, (q : Int), 0) w d) := by
  obtain ⟨w0, RO, bv, bq, qv, h1, h2, h3⟩ := h
  refine ((h1.rebase S hS).until hp sf sfirst scaps (hs _ fun g hg => Or.inr hg) q hq).mono ?_
  rintro e w' ⟨⟨d', ha, hpl, hm⟩, hdb⟩
  exact ⟨d', ⟨w0, RO, bv, bq, qv, h1.after ha (hdb d' hpl ha), grow h2 h3 ha⟩, hpl, ha, hm⟩
/-- a block of nobody's changes -/
theorem DbF.side (h : DbF p wb b w d) {g : Nat} (hc : ChgP (fun x => x = g) w w') (h1 : g ∉ d.muts b) (h2 : g ∉ d.imms) (h3 : b < g) (h4 : wb.heap.size ≤ g) : DbF p wb b w' d := by
  obtain ⟨w0, RO, bv, bq, qv, g1, g2, g3, g4⟩ := h
  exact ⟨w0, RO, bv, bq, qv, g1.other hc fun x hx => by subst hx; exact ⟨h1, h2, fun hr => by have := g4 _ hr; omega⟩, ChgP.toL ((g2.p (S := fun g => g ∈ ([] : List Nat))).comp hc fun x hx => Or.inr (by subst hx; exact h4)), g3, g4⟩
theorem DbF.lt (h : DbF p wb b w d) : b < w.heap.size ∧ wb.heap.size ≤ b := by
  refine ⟨h.mem.lt b (by unfold Dm.muts; simp), ?_⟩
  obtain ⟨w0, RO, bv, bq, qv, g1, g2, g3, g4⟩ := h
  exact g3 b (by unfold Dm.muts; simp)
set_option maxRecDepth 100000 in
set_option maxHeartbeats 4000000 in
theorem cancelGet_any (hp : PrgOk p) (h : DbF p wb b w d) {stp : PS → Bool} (tok : Value) (S : Nat → Prop) (hS : ∀ g, S g → g < w.heap.size ∧ g ∉ d.muts b) (hs : ∀ (w0 : World) (RO : Nat → Prop), (∀ g, S g → RO g ∧ w0.heap[g]? = w.heap[g]?) → SFam w0 RO b 37 #[tok] #[] stp) (hq : q < p.qs.length) :
    Calls Try.prog 39 #[.pointer (some ⟨b, 0, none⟩), i3v (1, (q : Int), 0), tok] w (GetPostF p stp wb b (1, (q : Int), 0) w d) := by
  have Hcall := Lib.hid (fun w' (hw : Chg [] w w') => (h.new hw).untilS hp (stp := stp) S (fun g hg => ⟨Nat.lt_of_lt_of_le (hS g hg).1 hw.size, (hS g hg).2⟩) 37 #[tok] #[] (fun RO hR => hs w' RO fun g hg => ⟨hR g hg, hw.block g (hS g hg).1 (by simp)⟩) hq)
  have Hm := Lib.hid h
  clear h hs hS
  unfold i3v at Hcall ⊢
  go_enter Try.func39, Try.ntmps39
  go_wp2_with fail
  have hmf : ∀ (fn : Fn) (first cap : Array Value) (w : World), (Instr.makeFunc fn first cap).run Try.prog w = .ok (.func fn first cap) w := fun _ _ _ _ => rfl
  go_wp2_with fail
  obtain ⟨wa, hwa⟩ : ∃ x, x = (w.alloc (.cells #[.int .i64 1, .int .i64 (q : Int), .int .i64 0] 27)).alloc (.cells #[.slice none 0 0, .string ⟨#[]⟩] 31) := ⟨_, rfl⟩
  rw [← hwa]
  have hca : Chg [] w wa := by rw [hwa]; exact ((Chg.refl [] w).alloc _).alloc _
  have hz : wa.heap.size = w.heap.size + 2 := by rw [hwa]; simp
  have hvb : wa.heap[w.heap.size + 1]? = some (.cells #[.slice none 0 0, .string ⟨#[]⟩] 31 (0, 0)) := by rw [hwa]; exact heap_at _ _ _ (by simp)
  have Hz := Lib.hid hz
  clear hwa hz
  refine (Hcall.out wa hca).mono ?_
  rintro e w1 ⟨d', hdb, hpl, haf, hmatch⟩
  have hnm : w.heap.size + 1 ∉ d.muts b ∧ w.heap.size + 1 ∉ d.imms := ⟨fun hm => by have := Hm.out.mem.lt _ hm; omega, fun hm => by have := Hm.out.mem.bound _ hm; omega⟩
  have hv1 := (haf.chg.block _ (lt_of_obj hvb) hnm.1).trans hvb
  have nm' : w.heap.size + 1 ∉ d'.muts b := fun hm => (haf.muts _ hm).elim hnm.1 fun h => by have := Hz.out; omega
  have ni' : w.heap.size + 1 ∉ d'.imms := fun hm => (haf.imms _ hm).elim hnm.2 fun h => by have := Hz.out; omega
  have v0 := cell_of_heap hv1 (i := 0) rfl
  have v1 := cell_of_heap hv1 (i := 1) rfl
  have fv0 := frozen_of_heap hv1 (i := 0)
  have fv1 := frozen_of_heap hv1 (i := 1)
  have hlt := Hm.out.lt
  have hfin : ∀ x y, After b w ((w1.setCell ⟨w.heap.size + 1, 0, none⟩ x).setCell ⟨w.heap.size + 1, 1, none⟩ y) d d' ∧ DbF p wb b ((w1.setCell ⟨w.heap.size + 1, 0, none⟩ x).setCell ⟨w.heap.size + 1, 1, none⟩ y) d' := fun x y => by
    have hcv : ChgP (fun g => g = w.heap.size + 1) w1 ((w1.setCell ⟨w.heap.size + 1, 0, none⟩ x).setCell ⟨w.heap.size + 1, 1, none⟩ y) := ((ChgP.refl (fun g => g = w.heap.size + 1) w1).setCell (p := ⟨w.heap.size + 1, 0, none⟩) (Or.inl rfl) _).setCell (p := ⟨w.heap.size + 1, 1, none⟩) (Or.inl rfl) _
    have hd := hdb.side hcv nm' ni' (by omega) (by omega)
    exact ⟨⟨hd.mem, ((hca.p (S := fun g => g ∈ d.muts b)).trans haf.chg).comp hcv fun g hg => Or.inr (by omega), fun g hg => (haf.muts g hg).imp id fun h => by have := Hz.out; omega, fun g hg => (haf.imms g hg).imp id fun h => by have := Hz.out; omega, haf.comp, haf.stop⟩, hd⟩
  have Hfin := Lib.hid hfin
  have Hpl := Lib.hid hpl
  have Hv1 := Lib.hid hv1
  have Hnew := Lib.hid (And.intro nm' ni')
  have hzz := haf.chg.size
  clear hfin hpl hv1 hnm nm' ni' haf hca hvb hdb hlt
  rcases hu : upQ p stp d.pl (1, (q : Int), 0) with ⟨x | y, s'⟩
  · rw [hu] at hmatch
    simp only at hmatch
    subst hmatch
    have Hu := Lib.hid hu
    clear hu
    go_wp2
    refine bodyPost_ret (v := .tuple #[.agg #[.slice none 0 0, .string ⟨#[]⟩], .int .i64 x]) (by simp [results, Try.results39, go_sem, v0, v1]) rfl ⟨d', (Hfin.out _ _).2, by rw [Hpl.out], (Hfin.out _ _).1, ?_⟩
    rw [Hu.out]
  · rw [hu] at hmatch
    simp only at hmatch
    obtain ⟨a, c, rfl, hi⟩ := hmatch
    have Hu := Lib.hid hu
    have Hi := Lib.hid hi
    clear hu hi
    go_wp2
    refine bodyPost_ret (v := .tuple #[.agg #[.slice a (s'.res (1, (q : Int), 0)).xs.length c, .string ⟨#[]⟩], .int .i64 0]) (by simp [results, Try.results39, go_sem, v0, v1]) rfl ⟨d', (Hfin.out _ _).2, by rw [Hpl.out], (Hfin.out _ _).1, ?_⟩
    rw [Hu.out]
    refine ⟨a, c, rfl, ?_⟩
    refine Inp.Ints.kept Hi.out (((Chg.refl [w.heap.size + 1] w1).setCell (Or.inl (by simp)) _).setCell (Or.inl (by simp)) _) fun k hk => ?_
    obtain rfl : k = w.heap.size + 1 := by simpa using hk
    intro c' fr hh
    exact absurd (Hv1.out.symm.trans hh) (by simp)
/-! ### nothing is computed while everything is stopped -/
def Still (U : PS → QK → Except Int Unit × PS) : Prop := ∀ s k, (U s k).2.cnt = s.cnt
theorem still_any {U : PS → QK → Except Int Unit × PS} (hU : Still U) (rev : Int) : ∀ (l : List QK) (s : PS), (anyChg U rev l s).2.cnt = s.cnt := by
  intro l
  induction l with
  | nil => intro s; rfl
  | cons k r ih =>
    intro s
    have hc : (chgSince U s k rev).2.cnt = s.cnt := by
      unfold chgSince
      split
      · rfl
      · have := hU s k
        rcases h : U s k with ⟨_ | _, s'⟩ <;> rw [h] at this <;> exact this
    unfold anyChg
    rcases h : chgSince U s k rev with ⟨_ | t, s'⟩ <;> rw [h] at hc
    · exact hc
    · cases t
      · exact (ih s').trans hc
      · exact hc
theorem still_upd {U : PS → QK → Except Int Unit × PS} (hU : Still U) (C : QK → (GS → QK → Except Int (List Int) × GS) → GS → Except Int (List Int) × GS) : Still (updP U C fun _ => true) := by
  intro s k
  have hre : ∀ s2 : PS, thenFin k (recompP U C (fun _ => true) s2 k) = (.error 12, s2) := fun s2 => by rw [recompP_stop rfl]; rfl
  unfold updP
  split
  · rfl
  · simp only
    cases aget (({ s with act := ups s.act k 1 } : PS).es) k with
    | none => simp only [hre]
    | some r =>
      have hv : (validP U { s with act := ups s.act k 1 } r).2.cnt = s.cnt := by
        unfold validP
        split
        · rfl
        · have := still_any hU r.ver r.deps { s with act := ups s.act k 1 }
          rcases h : anyChg U r.ver r.deps { s with act := ups s.act k 1 } with ⟨_ | t, s'⟩ <;> rw [h] at this <;> exact this
      simp only
      rcases h : validP U { s with act := ups s.act k 1 } r with ⟨_ | t, s'⟩ <;> rw [h] at hv
      · exact hv
      · cases t
        · simp only [hre]; exact hv
        · exact hv
theorem still_UQ (qs : List (List QO)) : ∀ n, Still (UQ qs (fun _ => true) n) := by
  intro n
  induction n with
  | zero => intro s k; rfl
  | succ n ih => exact still_upd ih (compQ qs)
/-- a get that everything stops -/
def StoppedPost (p : Prg) (wb : World) (b gi n : Nat) (w : World) (d : Dm) (ins : List Int) (e : Ending) (w' : World) : Prop :=
  ∃ d' a m c x, e = .returned (.tuple #[.agg #[.slice a m c, .string ⟨#[]⟩], .int .i64 x]) ∧ (x = 0 ∨ x = 12) ∧ RunM p wb b gi w' d' ins ∧ RunP p (n + 1) d'.pl ins ∧ After b w w' d d' ∧ d'.cnt = d.cnt
theorem StoppedPost.mk {p : Prg} (hp : PrgOk p) {wb : World} {b gi n q : Nat} {w : World} {d : Dm} {ins : List Int} (hM : RunM p wb b gi w d ins) (hR : RunP p n d.pl ins) (hn : n ≤ 1000) (hq : q < p.qs.length) {e : Ending} {w' : World} (hg : GetPostF p (fun _ => true) wb b (1, (q : Int), 0) w d e w') : StoppedPost p wb b gi n w d ins e w' := by
  obtain ⟨d', hd, hpl, ha, hm⟩ := hg
  obtain ⟨H, hI⟩ := hR.inv
  have hR' := hR.upd hp hn (fun _ => true) hq
  rw [← hpl] at hR'
  have hcnt : d'.cnt = d.cnt := by
    have h1 : d'.pl.cnt = (upQ p (fun _ => true) d.pl (1, (q : Int), 0)).2.cnt := by rw [hpl]; rfl
    exact h1.trans (still_UQ p.qs _ d.pl (1, (q : Int), 0))
  obtain ⟨x, s', hu, _, _, hx⟩ := untilI hp hI hR.act (fun _ => true) hq
  rw [hu] at hm
  rcases hx with ⟨rfl, _⟩ | ⟨rfl, _⟩
  · simp only at hm
    obtain ⟨a, c, rfl, _⟩ := hm
    exact ⟨d', a, _, c, 0, rfl, Or.inl rfl, hM.after hd ha, hR', ha, hcnt⟩
  · simp only at hm
    exact ⟨d', none, 0, 0, 12, hm, Or.inr rfl, hM.after hd ha, hR', ha, hcnt⟩
theorem GotPost.mk {p : Prg} (hp : PrgOk p) {wb : World} {b gi n q : Nat} {w : World} {d : Dm} {ins : List Int} (hM : RunM p wb b gi w d ins) (hR : RunP p n d.pl ins) (hn : n ≤ 1000) (hq : q < p.qs.length) {e : Ending} {w' : World} (hg : GetPostF p (fun _ => false) wb b (1, (q : Int), 0) w d e w') : GotPost p wb b gi n q w d ins e w' := by
  obtain ⟨d', hd, hpl, ha, hm⟩ := hg
  obtain ⟨s', r, h1, h2, h3, h4⟩ := hR.got hp hn hq
  rw [h1] at hpl hm
  simp only [h2, h3.xs] at hm
  obtain ⟨a, c, rfl, hi⟩ := hm
  refine ⟨d', a, c, r, rfl, hi, hM.after hd ha, ?_, ?_, ha⟩
  · rw [hpl]; exact h4
  · rw [hpl]; exact h3
/-- a block of nobody's changes -/
theorem RunM.side {p : Prg} {wb : World} {b gi : Nat} {w w' : World} {d : Dm} {ins : List Int} (h : RunM p wb b gi w d ins) {g : Nat} (hc : ChgP (fun x => x = g) w w') (h1 : g ∉ d.muts b) (h2 : g ∉ d.imms) (h3 : gi < g) : RunM p wb b gi w' d ins :=
  ⟨h.db.side hc h1 h2 (by have := h.gb; omega) (by have := h.gw; omega), h.len, (hc.block gi h.lt (by omega)).trans h.row, h.off, h.offi, h.gb, h.gw⟩
end Go.Proofs.Ytdeodcomlakpaaa
