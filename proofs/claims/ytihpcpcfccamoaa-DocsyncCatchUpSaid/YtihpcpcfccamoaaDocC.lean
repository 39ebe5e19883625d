/- docsync.apply. -/
import Derived.Test.YtihpcpcfccamoaaDocB
namespace Go.Proofs.Ytihpcpcfccamoaa
open Go.RowKit
set_option linter.unusedVariables false
set_option linter.unusedSimpArgs false
/-- a document's cells -/
def docV (nm : ByteArray) (ver : Int) (text : ByteArray) : Value := .agg #[.string nm, .int .i64 ver, .string text]
def docRes (nm : ByteArray) (ver : Int) (text : ByteArray) (E : List Edit) : Value :=
  if docNext ver text E = 0 then docV nm (ver + 1) (applyT text E) else docV ⟨#[]⟩ 0 ⟨#[]⟩
theorem three {w : World} {b : Nat} {a0 a1 a2 : Value} {T : TypeId} (h : w.heap[b]? = some (.cells #[a0, a1, a2] T (0, 0))) :
    w.cell? ⟨b, 0, none⟩ = some a0 ∧ w.cell? ⟨b, 1, none⟩ = some a1 ∧ w.cell? ⟨b, 2, none⟩ = some a2 ∧ w.frozen? ⟨b, 0, none⟩ = false ∧ w.frozen? ⟨b, 1, none⟩ = false ∧ w.frozen? ⟨b, 2, none⟩ = false :=
  ⟨cell_of_heap h rfl, cell_of_heap h rfl, cell_of_heap h rfl, frozen_of_heap h, frozen_of_heap h, frozen_of_heap h⟩
/-- what apply computes, given what textedit.Apply returns -/
def docFin (nm : ByteArray) (ver : Int) (t : ByteArray) (q : Int) : Value × Int :=
  if q ≠ 0 then (docV ⟨#[]⟩ 0 ⟨#[]⟩, q) else if 2000 < t.size ∨ 2147483647 ≤ ver then (docV ⟨#[]⟩ 0 ⟨#[]⟩, 2) else (docV nm (ver + 1) t, 0)
set_option maxRecDepth 100000 in
set_option maxHeartbeats 4000000 in
theorem docApply_of (nm : ByteArray) (ver : Int) (s t : ByteArray) (q : Int) (v : Value) (w : World) (hvv : -9223372036854775808 ≤ ver ∧ ver ≤ 9223372036854775807) 
    (hap : ∀ W, Chg [] w W → Calls Try.prog 35 #[.string s, v] W fun e w' => e = .returned (.tuple #[.string t, .int .i64 q]) ∧ Chg [] W w') :
    Calls Try.prog 23 #[docV nm ver s, v] w fun e w' => e = .returned (.tuple #[(docFin nm ver t q).1, .int .i64 (docFin nm ver t q).2]) ∧ Chg [] w w' := by
  obtain ⟨hv1, hv2⟩ := hvv
  by_cases hq : q = 0
  · subst hq
    by_cases h2 : 2000 < t.size
    · rw [show docFin nm ver t 0 = (docV ⟨#[]⟩ 0 ⟨#[]⟩, 2) by unfold docFin; rw [if_neg (by simp), if_pos (Or.inl h2)]]
      have h3 : (2000 : Int) < (t.size : Int) := by omega
      unfold docV
      go_enter Try.func23, Try.ntmps23
      go_wp2_with fail
      refine (hap _ (((Chg.refl [] w).alloc _).alloc _)).mono ?_
      rintro e w1 ⟨rfl, c1⟩
      obtain ⟨x0, x1, x2, _, _, _⟩ := three ((c1.block w.heap.size (by simp; omega) (by simp)).trans ((heap_past _ _ _ (by simp)).trans (heap_at w (.cells #[.string nm, .int .i64 ver, .string s] 30 (0, 0)) _ rfl)))
      obtain ⟨y0, y1, y2, f0, f1, f2⟩ := three ((c1.block (w.heap.size + 1) (by simp) (by simp)).trans (heap_at _ (.cells #[.string ⟨#[]⟩, .int .i64 0, .string ⟨#[]⟩] 30 (0, 0)) _ (by simp)))
      have C1 := Lib.hid ((((Chg.refl [] w).alloc _).alloc _).new c1)
      clear c1
      go_wp2_with fail
      refine bodyPost_ret (v := .tuple #[.agg #[.string ⟨#[]⟩, .int .i64 0, .string ⟨#[]⟩], .int .i64 2]) (by simp [results, Try.results23, go_sem, y0, y1, y2]) rfl ⟨rfl, ((C1.out.setCell (Or.inr (by simp)) _).setCell (Or.inr (by simp)) _).setCell (Or.inr (by simp)) _⟩
    · have h3 : ¬ (2000 : Int) < (t.size : Int) := by omega
      by_cases h4 : 2147483647 ≤ ver
      · rw [show docFin nm ver t 0 = (docV ⟨#[]⟩ 0 ⟨#[]⟩, 2) by unfold docFin; rw [if_neg (by simp), if_pos (Or.inr h4)]]
        unfold docV
        go_enter Try.func23, Try.ntmps23
        go_wp2_with fail
        refine (hap _ (((Chg.refl [] w).alloc _).alloc _)).mono ?_
        rintro e w1 ⟨rfl, c1⟩
        obtain ⟨x0, x1, x2, _, _, _⟩ := three ((c1.block w.heap.size (by simp; omega) (by simp)).trans ((heap_past _ _ _ (by simp)).trans (heap_at w (.cells #[.string nm, .int .i64 ver, .string s] 30 (0, 0)) _ rfl)))
        obtain ⟨y0, y1, y2, f0, f1, f2⟩ := three ((c1.block (w.heap.size + 1) (by simp) (by simp)).trans (heap_at _ (.cells #[.string ⟨#[]⟩, .int .i64 0, .string ⟨#[]⟩] 30 (0, 0)) _ (by simp)))
        have C1 := Lib.hid ((((Chg.refl [] w).alloc _).alloc _).new c1)
        clear c1
        go_wp2_with fail
        refine bodyPost_ret (v := .tuple #[.agg #[.string ⟨#[]⟩, .int .i64 0, .string ⟨#[]⟩], .int .i64 2]) (by simp [results, Try.results23, go_sem, y0, y1, y2]) rfl ⟨rfl, ((C1.out.setCell (Or.inr (by simp)) _).setCell (Or.inr (by simp)) _).setCell (Or.inr (by simp)) _⟩
      · rw [show docFin nm ver t 0 = (docV nm (ver + 1) t, 0) by unfold docFin; rw [if_neg (by simp), if_neg (by omega)]]
        unfold docV
        go_enter Try.func23, Try.ntmps23
        go_wp2_with fail
        refine (hap _ (((Chg.refl [] w).alloc _).alloc _)).mono ?_
        rintro e w1 ⟨rfl, c1⟩
        obtain ⟨x0, x1, x2, _, _, _⟩ := three ((c1.block w.heap.size (by simp; omega) (by simp)).trans ((heap_past _ _ _ (by simp)).trans (heap_at w (.cells #[.string nm, .int .i64 ver, .string s] 30 (0, 0)) _ rfl)))
        obtain ⟨y0, y1, y2, f0, f1, f2⟩ := three ((c1.block (w.heap.size + 1) (by simp) (by simp)).trans (heap_at _ (.cells #[.string ⟨#[]⟩, .int .i64 0, .string ⟨#[]⟩] 30 (0, 0)) _ (by simp)))
        have C1 := Lib.hid ((((Chg.refl [] w).alloc _).alloc _).new c1)
        clear c1
        go_wp2_with fail
        refine bodyPost_ret (v := .tuple #[.agg #[.string nm, .int .i64 (ver + 1), .string t], .int .i64 0]) (by simp [results, Try.results23, go_sem, y0, y1, y2]) rfl ⟨rfl, ((C1.out.setCell (Or.inr (by simp)) _).setCell (Or.inr (by simp)) _).setCell (Or.inr (by simp)) _⟩
  · rw [show docFin nm ver t q = (docV ⟨#[]⟩ 0 ⟨#[]⟩, q) by unfold docFin; rw [if_pos hq]]
    have hqb : (q == 0) = false := by simpa using hq
    unfold docV
    go_enter Try.func23, Try.ntmps23
    go_wp2_with fail
    refine (hap _ (((Chg.refl [] w).alloc _).alloc _)).mono ?_
    rintro e w1 ⟨rfl, c1⟩
    obtain ⟨x0, x1, x2, _, _, _⟩ := three ((c1.block w.heap.size (by simp; omega) (by simp)).trans ((heap_past _ _ _ (by simp)).trans (heap_at w (.cells #[.string nm, .int .i64 ver, .string s] 30 (0, 0)) _ rfl)))
    obtain ⟨y0, y1, y2, f0, f1, f2⟩ := three ((c1.block (w.heap.size + 1) (by simp) (by simp)).trans (heap_at _ (.cells #[.string ⟨#[]⟩, .int .i64 0, .string ⟨#[]⟩] 30 (0, 0)) _ (by simp)))
    have C1 := Lib.hid ((((Chg.refl [] w).alloc _).alloc _).new c1)
    clear c1
    go_wp2_with fail
    refine bodyPost_ret (v := .tuple #[.agg #[.string ⟨#[]⟩, .int .i64 0, .string ⟨#[]⟩], .int .i64 q]) (by simp [results, Try.results23, go_sem, y0, y1, y2]) rfl ⟨rfl, ((C1.out.setCell (Or.inr (by simp)) _).setCell (Or.inr (by simp)) _).setCell (Or.inr (by simp)) _⟩
end Go.Proofs.Ytihpcpcfccamoaa
