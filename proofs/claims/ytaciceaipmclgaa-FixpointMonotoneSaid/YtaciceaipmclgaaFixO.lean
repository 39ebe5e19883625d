/- NewSolver, Sets. -/
import Derived.Test.YtaciceaipmclgaaFixN
namespace Go.Proofs.Ytaciceaipmclgaa
open Go.RowKit
set_option linter.unusedVariables false
/-- a solver in block b: its rules, and its sets in the row gs; all of it made since B -/
structure Solv (B b gs : Nat) (R : Rules) (S : List Nat) (w : World) : Prop where
  c0 : ∃ rv, w.cell? ⟨b, 0, none⟩ = some rv ∧ RulesAt (fun g => B ≤ g ∧ g < w.heap.size ∧ g ≠ b ∧ g ≠ gs) w rv R
  c1 : w.cell? ⟨b, 1, none⟩ = some (.slice (some ⟨gs, 0, none⟩) R.length R.length)
  f0 : w.frozen? ⟨b, 0, none⟩ = false
  row : w.rowIs gs 3 R.length (fun j => nv (S.getD j 0))
  ne : b ≠ gs
  hb : B ≤ b
  hgs : B ≤ gs
  ok : Okr R
  lst : Lst R S
theorem Solv.kept {B b gs : Nat} {R : Rules} {S : List Nat} {w w' : World} (h : Solv B b gs R S w) (hc : Chg [] w w') : Solv B b gs R S w' := by
  obtain ⟨rv, h1, h2⟩ := h.c0
  exact ⟨⟨rv, (hc.cell (lt_of_cell h1) (by simp)).trans h1, (h2.kept hc (by simp)).imp fun g hg => ⟨hg.1, Nat.lt_of_lt_of_le hg.2.1 hc.size, hg.2.2⟩⟩, (hc.cell (lt_of_cell h.c1) (by simp)).trans h.c1, (hc.frozen (lt_of_cell h1) (by simp)).trans h.f0,
    h.row.of_block (hc.block gs h.row.lt (by simp)), h.ne, h.hb, h.hgs, h.ok, h.lst⟩
theorem slf_row {w : World} {g n : Nat} {f : Nat → Value} (hn : n ≤ 1000000) (h : w.rowIs g 3 n f) : SlF (fun k => k = g) w (.slice (some ⟨g, 0, none⟩) n n) n f :=
  ⟨_, n, rfl, Nat.le_refl _, by unfold maxLen; omega, fun _ => ⟨g, 0, rfl, rfl, fun j hj => by rw [Nat.zero_add]; exact h.cell hj⟩⟩
def SetsPost (S : List Nat) (w : World) (e : Ending) (w' : World) : Prop := ∃ v, e = .returned v ∧ Nums (fun g => w.heap.size ≤ g ∧ g < w'.heap.size) w' v S ∧ Chg [] w w'
set_option maxHeartbeats 1000000 in
theorem sets_any (B b gs : Nat) (R : Rules) (S : List Nat) (w : World) (h : Solv B b gs R S w) : Calls Try.prog 11 #[.pointer (some ⟨b, 0, none⟩)] w (SetsPost S w) := by
  have hn60 := h.ok.size
  have hlen := h.lst.len
  have hc := sClone_any (fun k => k = gs) w _ R.length _ (slf_row (by omega) h.row) (fun j hj => by simp [nv, Value.oneCell']) (by omega)
  have hc1 := h.c1
  have lb := lt_of_cell hc1
  have Hc := Lib.hid hc
  have Hlen := Lib.hid hlen
  clear h hc hlen
  go_enter Try.func11, Try.ntmps11
  go_wp2_with fail
  refine (Hc.out).mono ?_
  rintro e w1 ⟨v, rfl, hv, c1⟩
  have Hv := Lib.hid hv
  clear hv
  go_wp2
  go_ret
  exact ⟨v, rfl, by unfold Nums; rw [Hlen.out]; exact Hv.out, c1⟩
def NewPost (R : Rules) (w : World) (e : Ending) (w' : World) : Prop :=
  ((Okr R ∧ ∃ b gs S, e = .returned (.tuple #[.pointer (some ⟨b, 0, none⟩), .int .i64 0]) ∧ Solv w.heap.size b gs R S w') ∨ (¬ Okr R ∧ ∃ c : Int, c ≠ 0 ∧ e = .returned (.tuple #[.pointer none, .int .i64 c]))) ∧ Chg [] w w'
set_option maxHeartbeats 1000000 in
theorem newSolver_any (p : Nat → Prop) (w : World) (R : Rules) (v : Value) (hR : RulesAt p w v R) (hp : ∀ k, p k → k < w.heap.size) : Calls Try.prog 10 #[v] w (NewPost R w) := by
  have HR := Lib.hid hR
  have Hp := Lib.hid hp
  clear hR hp
  go_enter Try.func10, Try.ntmps10
  go_wp2_with fail
  refine (least_any p w R v HR.out Hp.out).mono ?_
  rintro e w1 ⟨h | h, c1⟩
  · obtain ⟨hok, vs, S, rfl, hlst, gs, rfl, hgs, hrow⟩ := h
    have hlen := hlst.len
    rw [hlen] at hrow
    have Hrow := Lib.hid hrow
    have Hlst := Lib.hid hlst
    have Hok := Lib.hid hok
    have Hc1 := Lib.hid c1
    have hR1 := HR.out.kept c1 (by simp)
    have HR1 := Lib.hid hR1
    have hn60 := hok.size
    rw [hlen]
    clear hrow hlst hok c1 hR1
    go_wp2_with fail
    refine (cloneRules_any p w1 R v HR1.out Hok.out).mono ?_
    rintro e w2 ⟨V, us, rfl, hcl, c2⟩
    have hsol : Solv w.heap.size w2.heap.size gs R S (w2.alloc (.cells #[.slice (some ⟨w1.heap.size, 0, none⟩) R.length R.length, .slice (some ⟨gs, 0, none⟩) R.length R.length] 52)) := by
      have hru := hcl.rules (fun _ _ => rfl) (by omega) (fun l hl => by have := Hok.out.rules l hl; omega)
      have hs1 := Hc1.out.size
      have hgl := Hrow.out.lt
      have hs2 := c2.size
      refine ⟨⟨_, cell_of_heap (heap_at _ _ _ rfl) rfl, (hru.kept ((Chg.refl [] w2).alloc _) (by simp)).imp fun g hg => ⟨by omega, by simp; omega, by omega, by omega⟩⟩, cell_of_heap (heap_at _ _ _ rfl) rfl, frozen_of_heap (heap_at _ _ _ rfl), (Hrow.out.of_block (c2.block gs hgl (by simp))).of_block (((Chg.refl [] w2).alloc _).block gs (by omega) (by simp)), by omega, by omega, hgs, Hok.out, Hlst.out⟩
    have Hsol := Lib.hid hsol
    have Hc2 := Lib.hid (Hc1.out.trans c2)
    clear hcl c2 hsol
    go_wp2
    go_ret2
    exact ⟨Or.inl ⟨Hok.out, _, gs, S, rfl, Hsol.out⟩, Hc2.out.alloc _⟩
  · obtain ⟨hno, c, hc, rfl⟩ := h
    have hcb : (c != 0) = true := by rw [bne_iff_ne]; exact hc
    have Hno := Lib.hid hno
    have Hc := Lib.hid hc
    clear hno hc
    go_wp2
    go_ret2
    exact ⟨Or.inr ⟨Hno.out, c, Hc.out, rfl⟩, c1⟩
end Go.Proofs.Ytaciceaipmclgaa
