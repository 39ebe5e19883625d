/- The copied rules, the last of one set taken off. -/
import Derived.Test.YtaciceaipmclgaaFixS
import Derived.Test.YtaciceaipmclgaaFixP
import Derived.Test.YtaciceaipmclgaaFixR
namespace Go.Proofs.Ytaciceaipmclgaa
open Go.RowKit
set_option linter.unusedVariables false
theorem ClV.ruleL {w : World} {gr n : Nat} {L : Nat → List Rule} {V : Nat → Value} {us : Nat → List RV} (h : ClV w gr n L V us) {a : Nat} (ha : a < n) (hl : (L a).length ≤ 1000000) :
    RuleL (fun x => gr < x ∧ x < w.heap.size ∧ ((V a).ownBlock = some x ∨ ∀ i, i < n → (V i).ownBlock ≠ some x)) w (V a) (L a) := by
  have hlen := h.len a ha
  have hown := h.own a ha
  rcases hown.2 with ⟨hv', h0⟩ | ⟨g, cap', cur, hv', h1, h2, h3, h4, h5, h6⟩
  · rw [hv']
    exact ⟨none, 0, by rw [← hlen, h0], by omega, by unfold maxLen; omega, fun h => by omega⟩
  · refine ⟨some ⟨g, 0, none⟩, cap', by rw [hv', hlen], by omega, by unfold maxLen; omega, fun _ => ⟨g, 0, rfl, ⟨by omega, lt_of_obj h2, Or.inl (by rw [hv']; rfl)⟩, fun k hk => ?_⟩⟩
    have hob : (V a).ownBlock = some g := by rw [hv']; rfl
    obtain ⟨f1, f2⟩ := flatP_get (us a) k (by omega)
    have c1 := hown.cells (g := g) hob (k * 2) _ f1
    have c2 := hown.cells (g := g) hob (k * 2 + 1) _ f2
    rw [Addr.add_lit] at c1 c2
    rw [h.mask a ha k hk] at c1
    exact ⟨c1, _, by have e : 0 + (k * 2 + 1) = 0 + k * 2 + 1 := by omega
                     rw [e] at c2; exact c2, (h.ints a ha k hk).imp fun g hg => ⟨hg.1, hg.2.1, Or.inr hg.2.2⟩⟩
theorem getD_app_lt {α : Type} (l : List α) (x d : α) (j : Nat) (hj : j < l.length) : (l ++ [x]).getD j d = l.getD j d := by
  rw [List.getD_eq_getElem?_getD, List.getD_eq_getElem?_getD, List.getElem?_append_left hj]
theorem ClV.cut {w w2 : World} {gr g cap k : Nat} {R : Rules} {i : Nat} {r : Rule} {V : Nat → Value} {us : Nat → List RV} (hi : i < R.length) (hok : Okr (addR R i r)) (h : ClV w gr R.length (fun a => (addR R i r).getD a []) V us)
    (hv : V i = .slice (some ⟨g, 0, none⟩) (k + 1) cap) (hk : (R.getD i []).length = k) (hc : Chg [g] w w2) (hcell : ∀ j, j < k * 2 → w2.cell? ⟨g, j, none⟩ = w.cell? ⟨g, j, none⟩) :
    RulesAt (fun x => gr ≤ x ∧ x < w2.heap.size) (w2.setCell ⟨gr, i, none⟩ (.slice (some ⟨g, 0, none⟩) k cap)) (.slice (some ⟨gr, 0, none⟩) R.length R.length) R := by
  have hn60 := hok.size
  rw [addR_len] at hn60
  have hl20 : ∀ a, a < R.length → ((addR R i r).getD a []).length ≤ 20 := fun a ha => hok.rules _ (getD_memb' (by rw [addR_len]; exact ha))
  have hg : gr < g := by
    have := (ownsRow_lt (h.own i hi) (g := g) (by rw [hv]; rfl)).1
    omega
  have hgr := h.row.lt
  have hrow := (h.row.of_block (hc.block gr hgr (by simp; omega))).set i (.slice (some ⟨g, 0, none⟩) k cap)
  have hset : ∀ x, gr < x → ∀ o, (w2.setCell ⟨gr, i, none⟩ (.slice (some ⟨g, 0, none⟩) k cap)).cell? ⟨x, o, none⟩ = w2.cell? ⟨x, o, none⟩ := fun x hx o => World.cell?_setCell_other _ _ _ _ (by simp <;> omega)
  refine ⟨_, _, rfl, Nat.le_refl _, by unfold maxLen; omega, fun _ => ⟨gr, 0, rfl, ⟨Nat.le_refl _, by have := hc.size; omega⟩, fun a ha => ?_⟩⟩
  have hra := h.ruleL ha (by have := hl20 a ha; omega)
  have hca := hrow.cell ha
  rw [Nat.zero_add]
  by_cases e : a = i
  · subst e
    rw [if_pos rfl] at hca
    refine ⟨_, hca, ?_⟩
    have hL : (addR R a r).getD a [] = R.getD a [] ++ [r] := by rw [addR_getD hi, if_pos rfl]
    have hlen := h.len a ha
    simp only [hL] at hra hlen
    obtain ⟨a', cap', hv', h1, h2, _⟩ := hra
    rw [hv] at hv'
    simp only [Value.slice.injEq] at hv'
    obtain ⟨rfl, _, rfl⟩ := hv'
    rw [List.length_append, List.length_singleton] at h1 h2 hlen
    have hob : (V a).ownBlock = some g := by rw [hv]; rfl
    have hown := h.own a ha
    have hgl := (ownsRow_lt hown hob).2
    refine ⟨_, cap, by rw [hk], by omega, by omega, fun _ => ⟨g, 0, rfl, ⟨by omega, Nat.lt_of_lt_of_le hgl hc.size⟩, fun j hj => ?_⟩⟩
    have hjl : j < ((addR R a r).getD a []).length := by rw [hL, List.length_append, List.length_singleton]; omega
    obtain ⟨f1, f2⟩ := flatP_get (us a) j (by omega)
    have c1 := hown.cells (g := g) hob (j * 2) _ f1
    have c2 := hown.cells (g := g) hob (j * 2 + 1) _ f2
    rw [Addr.add_lit] at c1 c2
    rw [h.mask a ha j hjl] at c1
    have hin := h.ints a ha j hjl
    simp only [hL, getD_app_lt _ _ _ _ hj] at c1 hin
    have e0 : 0 + (j * 2 + 1) = 0 + j * 2 + 1 := by omega
    rw [e0] at c2
    refine ⟨(hset g hg _).trans ((hcell _ (by omega)).trans (by simpa using c1)), _, (hset g hg _).trans ((hcell _ (by omega)).trans (by rw [← c2])), ?_⟩
    have h3 := (hin.imp (q := fun x => gr < x ∧ x < w.heap.size ∧ x ≠ g) (fun x hx => ⟨hx.1, hx.2.1, fun ex => hx.2.2 a ha (by rw [hob, ex])⟩))
    have h4 := SlF.kept h3 hc (by simp)
    exact (SlF.kept h4 ((Chg.refl [gr] w2).setCell (p := ⟨gr, a, none⟩) (Or.inl (by simp)) _) (by simp)).imp (fun x hx => ⟨by omega, by have := hc.size; omega⟩)
  · rw [if_neg e] at hca
    refine ⟨_, hca, ?_⟩
    have hL : (addR R i r).getD a [] = R.getD a [] := by rw [addR_getD hi, if_neg e]
    simp only [hL] at hra
    have h1 := (hra.imp (q := fun x => gr < x ∧ x < w.heap.size ∧ x ≠ g) (fun x hx => ⟨hx.1, hx.2.1, fun ex => by
      subst ex
      rcases hx.2.2 with hb | hb
      · exact h.apart a ha i hi e x hb (by rw [hv]; rfl)
      · exact hb i hi (by rw [hv]; rfl)⟩)).kept hc (by simp)
    exact (h1.kept ((Chg.refl [gr] w2).setCell (Or.inl (by simp)) _) (by simp)).imp (fun x hx => ⟨by omega, by have := hc.size; omega⟩)
/-- what is left extended: the least solution without the rule -/
theorem rem_prop {B b gs gr n : Nat} {R R1 : Rules} {S S1 D : List Nat} {i : Nat} {r : Rule} {w w13 w14 : World} {vq : Value} (hR1 : R1 = addR R i r) (h : Solv B b gs R1 S1 w) (hi : i < R.length) (hok : Okr R) (hS : Lst R S) (hD : Del R1 S1 D i r) (hDb : ∀ x ∈ D, x ≤ univ)
    (hn : n = R.length) (hru : RulesAt (fun x => gr ≤ x ∧ x < w13.heap.size) w13 (.slice (some ⟨gr, 0, none⟩) n n) R) (hgr : w.heap.size ≤ gr) (c0 : w13.cell? ⟨b, 0, none⟩ = some (.slice (some ⟨gr, 0, none⟩) n n)) (c1 : w13.cell? ⟨b, 1, none⟩ = some (.slice (some ⟨gs, 0, none⟩) n n)) (f0 : w13.frozen? ⟨b, 0, none⟩ = false)
    (hrow : w13.rowIs gs 3 n (fun j => nv ((rest S1 D).getD j 0))) (hc13 : Chg [b, gs] w w13) (hc14 : Chg [] w13 w14) (hq : Que w14 w13.heap.size vq (List.range n)) :
    Calls Try.prog 19 #[.slice (some ⟨gr, 0, none⟩) n n, .slice (some ⟨gs, 0, none⟩) n n, vq] w14 fun e w' => e = .returned (.tuple #[]) ∧ Solv B b gs R S w' ∧ Chg [b, gs] w w' ∧ w'.cell? ⟨b, 0, none⟩ = some (.slice (some ⟨gr, 0, none⟩) n n) ∧ w'.cell? ⟨b, 1, none⟩ = some (.slice (some ⟨gs, 0, none⟩) n n) := by
  subst hn
  obtain ⟨rv, k0, _⟩ := h.c0
  have lb : b < w.heap.size := lt_of_cell k0
  have lgs : gs < w.heap.size := h.row.lt
  have hs13 := hc13.size
  have hs14 := hc14.size
  obtain ⟨gp, offp, capp, curp, hvq, hgp, hgph, _⟩ := id hq
  have hob : vq.ownBlock = some gp := by rw [hvq]; rfl
  have lgp := lt_of_obj hgph
  have hlS1 : S1.length = R.length := by rw [h.lst.len, hR1, addR_len]
  have hR14 := hru.kept hc14 (by simp)
  have hp := propagate_any _ w14 R _ vq (rest S1 D) (List.range R.length) gs gp _ hR14 hok (by simp [rest, hlS1]) (rest_univ h.lst.bd) (hrow.of_block (hc14.block gs (by omega) (by simp))) hq hob (by omega) List.nodup_range (by simp) (fun k hk => by omega) (by omega) (by omega) (fun a ha hna => absurd (by simpa using ha) hna)
  refine hp.mono ?_
  rintro e w15 ⟨rfl, ⟨T, hw, hbd, hrow15⟩, hc15⟩
  have hTS : T = S := by
    subst hR1
    exact Lst.removed hi hS h.lst hD (fun a k hk => rest_bit h.lst.bd hDb a k hk) hw hbd
  subst hTS
  have hnb : b ∉ [gs, gp] := by
    simp only [List.mem_cons, List.not_mem_nil, or_false]
    rintro (e | e)
    · exact h.ne e
    · omega
  have hb := h.hb
  have hgs := h.hgs
  have hs15 := hc15.size
  have k15 := (hc15.cell (p := ⟨b, 0, none⟩) (by show b < _; omega) hnb).trans ((hc14.cell (p := ⟨b, 0, none⟩) (by show b < _; omega) (by simp)).trans c0)
  have l15 := (hc15.cell (p := ⟨b, 1, none⟩) (by show b < _; omega) hnb).trans ((hc14.cell (p := ⟨b, 1, none⟩) (by show b < _; omega) (by simp)).trans c1)
  refine ⟨rfl, ⟨⟨_, k15, ?_⟩, l15, (hc15.frozen (p := ⟨b, 0, none⟩) (by show b < _; omega) hnb).trans ((hc14.frozen (p := ⟨b, 0, none⟩) (by show b < _; omega) (by simp)).trans f0), hrow15, h.ne, hb, hgs, hok, hS⟩, ?_, k15, l15⟩
  · exact (hR14.kept hc15 (fun g hg hp => by simp at hg; omega)).imp (fun g hg => ⟨by omega, by omega, by omega, by omega⟩)
  · exact (hc13.new hc14).comp hc15 (fun x hx => by
      simp only [List.mem_cons, List.not_mem_nil, or_false] at hx ⊢
      rcases hx with rfl | rfl
      · exact Or.inl (Or.inr rfl)
      · exact Or.inr (by omega))
end Go.Proofs.Ytaciceaipmclgaa
