/- Add. -/
import Derived.Test.YtaciceaipmclgaaFixO
namespace Go.Proofs.Ytaciceaipmclgaa
open Go.RowKit
set_option linter.unusedVariables false
def AddPost (B b gs : Nat) (R : Rules) (S : List Nat) (i : Nat) (r : Rule) (w : World) (e : Ending) (w' : World) : Prop :=
  ((∃ S', e = .returned (.int .i64 0) ∧ Solv B b gs (addR R i r) S' w' ∧ subs S S') ∨ (∃ c : Int, c ≠ 0 ∧ e = .returned (.int .i64 c) ∧ Solv B b gs R S w')) ∧ Chg [b, gs] w w'
theorem addR_mem {R : Rules} {i : Nat} {r : Rule} {l : List Rule} (hi : i < R.length) (h : l ∈ addR R i r) : l ∈ R ∨ l = R.getD i [] ++ [r] := by
  rcases List.mem_or_eq_of_mem_set h with h | h
  · exact Or.inl h
  · exact Or.inr h
/-- the rules stored into the solver, the sets extended -/
theorem add_prop {B b gs gr : Nat} {R : Rules} {S : List Nat} {i : Nat} {r : Rule} {w w5 : World} {u0 : Value} (h : Solv B b gs R S w) (hi : i < R.length) (hok : Okr (addR R i r)) (hc : Chg [] w w5) (hru : RulesAt (fun g => gr ≤ g ∧ g < w5.heap.size) w5 (.slice (some ⟨gr, 0, none⟩) R.length R.length) (addR R i r)) (hgr : w.heap.size ≤ gr)
    (k0 : w5.cell? ⟨b, 0, none⟩ = some u0) (k1 : w5.cell? ⟨b, 1, none⟩ = some (.slice (some ⟨gs, 0, none⟩) R.length R.length)) :
    Calls Try.prog 19 #[.slice (some ⟨gr, 0, none⟩) R.length R.length, .slice (some ⟨gs, 0, none⟩) R.length R.length, .slice (some ⟨w5.heap.size, 0, none⟩) 1 1]
      ((w5.setCell ⟨b, 0, none⟩ (.slice (some ⟨gr, 0, none⟩) R.length R.length)).alloc (.cells #[.int .i64 (i : Int)] 3)) fun e w' => e = .returned (.tuple #[]) ∧ ∃ S', Solv B b gs (addR R i r) S' w' ∧ subs S S' ∧ Chg [b, gs] w w' := by
  have hb := h.hb
  have hgsl := h.row.lt
  obtain ⟨rv, c0, _⟩ := h.c0
  have lb : b < w.heap.size := lt_of_cell c0
  have hs5 := hc.size
  have hc6 : Chg [b] w5 ((w5.setCell ⟨b, 0, none⟩ (.slice (some ⟨gr, 0, none⟩) R.length R.length)).alloc (.cells #[.int .i64 (i : Int)] 3)) := ((Chg.refl [b] w5).setCell (Or.inl (by simp)) _).alloc _
  have hz6 : (w5.setCell ⟨b, 0, none⟩ (.slice (some ⟨gr, 0, none⟩) R.length R.length)).heap.size = w5.heap.size := by simp
  have hrow : ((w5.setCell ⟨b, 0, none⟩ (.slice (some ⟨gr, 0, none⟩) R.length R.length)).alloc (.cells #[.int .i64 (i : Int)] 3)).rowIs gs 3 R.length (fun j => nv (S.getD j 0)) :=
    (h.row.of_block (hc.block gs hgsl (by simp))).of_block (hc6.block gs (by omega) (by simp; exact Ne.symm h.ne))
  have hR7 := hru.kept hc6 (fun g hg hp => by simp at hg; omega)
  have hq : Que ((w5.setCell ⟨b, 0, none⟩ (.slice (some ⟨gr, 0, none⟩) R.length R.length)).alloc (.cells #[.int .i64 (i : Int)] 3)) 0 (.slice (some ⟨w5.heap.size, 0, none⟩) 1 1) [i] :=
    ⟨w5.heap.size, 0, 1, #[.int .i64 (i : Int)], rfl, Nat.zero_le _, heap_at _ _ _ hz6.symm, Nat.le_refl _, by unfold maxLen; omega, Nat.le_refl _, fun j hj => by
      have : j = 0 := by simpa using hj
      subst this
      rfl⟩
  have hp := propagate_any _ _ (addR R i r) _ _ S [i] gs w5.heap.size 0 hR7 hok (by rw [addR_len]; exact h.lst.len) h.lst.bd (by rw [addR_len]; exact hrow) hq rfl (by omega) (by simp) (by simpa [addR_len] using hi) (fun k hk => by simp; omega) (by omega) (by omega) (fun a ha hna => by
    rw [addR_len] at ha
    rw [addR_getD hi, if_neg (by simpa using hna)]
    exact (sol_iff R S).1 h.lst.sol a ha)
  simp only [addR_len] at hp
  refine hp.mono ?_
  rintro e w8 ⟨rfl, ⟨S', hw, hbd, hrow8⟩, hc8⟩
  obtain ⟨hl8, hsub⟩ := h.lst.added hi hw hbd
  have hnb : b ∉ [gs, w5.heap.size] := by
    simp only [List.mem_cons, List.not_mem_nil, or_false]
    rintro (e | e)
    · exact h.ne e
    · omega
  have l7 : b < ((w5.setCell ⟨b, 0, none⟩ (.slice (some ⟨gr, 0, none⟩) R.length R.length)).alloc (.cells #[.int .i64 (i : Int)] 3)).heap.size := by simp; omega
  have hold : ∀ off, ((w5.setCell ⟨b, 0, none⟩ (.slice (some ⟨gr, 0, none⟩) R.length R.length)).alloc (.cells #[.int .i64 (i : Int)] 3)).cell? ⟨b, off, none⟩ = (w5.setCell ⟨b, 0, none⟩ (.slice (some ⟨gr, 0, none⟩) R.length R.length)).cell? ⟨b, off, none⟩ := fun off =>
    ((Chg.refl [] _).alloc _).cell (p := ⟨b, off, none⟩) (by rw [hz6]; show b < _; omega) (by simp)
  refine ⟨rfl, S', ⟨⟨_, (hc8.cell (p := ⟨b, 0, none⟩) l7 hnb).trans ((hold 0).trans (World.cell?_setCell_same' _ _ _ (by rw [k0]; rfl))), ?_⟩, ?_, ?_, by rw [addR_len]; exact hrow8, h.ne, hb, h.hgs, hok, hl8⟩, hsub, ?_⟩
  · have := (hR7.kept hc8 (fun g hg hp => by simp at hg; omega)).imp (q := fun g => B ≤ g ∧ g < w8.heap.size ∧ g ≠ b ∧ g ≠ gs) (fun g hg => ⟨by omega, by have := hc8.size; simp at this; omega, by omega, by omega⟩)
    exact this
  · rw [addR_len]
    exact (hc8.cell (p := ⟨b, 1, none⟩) l7 hnb).trans ((hold 1).trans ((World.cell?_setCell_other _ _ _ _ (by simp)).trans k1))
  · refine (hc8.frozen (p := ⟨b, 0, none⟩) l7 hnb).trans ((((Chg.refl [] _).alloc _).frozen (p := ⟨b, 0, none⟩) (by rw [hz6]; show b < _; omega) (by simp)).trans ?_)
    rw [World.frozen?_setCell]
    exact (hc.frozen (p := ⟨b, 0, none⟩) lb (by simp)).trans h.f0
  · refine (((hc.nil (S := [b, gs])).comp (hc6.mono (T := [b, gs]) (by simp)) (fun x hx => Or.inl hx))).comp hc8 (fun x hx => ?_)
    simp only [List.mem_cons, List.not_mem_nil, or_false] at hx ⊢
    rcases hx with rfl | rfl
    · exact Or.inl (Or.inr rfl)
    · exact Or.inr hs5
end Go.Proofs.Ytaciceaipmclgaa
