/- Steps, read; looking for a step. -/
import Derived.Test.YtaciceaipmclgaaFxC
namespace Go.Proofs.Ytaciceaipmclgaa
open Go.RowKit
set_option linter.unusedVariables false
/-- a slice of steps of the element e, read -/
def StepL (p : Nat → Prop) (w : World) (v : Value) (e : Nat) (Q : PS) : Prop :=
  ∃ a cap, v = .slice a Q.length cap ∧ Q.length ≤ cap ∧ Q.length ≤ 100 ∧ cap ≤ maxLen ∧ (0 < Q.length → ∃ g off, a = some ⟨g, off, none⟩ ∧ p g ∧
    ∀ j, j < Q.length → w.cell? ⟨g, off + j * 3, none⟩ = some (nv (Q.getD j dPS).1) ∧ w.cell? ⟨g, off + j * 3 + 1, none⟩ = some (nv (Q.getD j dPS).2) ∧ w.cell? ⟨g, off + j * 3 + 2, none⟩ = some (nv e))
theorem StepL.kept {p : Nat → Prop} {S : List Nat} {w w' : World} {v : Value} {e : Nat} {Q : PS} (h : StepL p w v e Q) (hc : Chg S w w') (hS : ∀ k ∈ S, ¬ p k) : StepL p w' v e Q := by
  obtain ⟨a, cap, rfl, h1, h2, h2', h3⟩ := h
  refine ⟨a, cap, rfl, h1, h2, h2', fun h0 => ?_⟩
  obtain ⟨g, off, rfl, hp, hc'⟩ := h3 h0
  refine ⟨g, off, rfl, hp, fun j hj => ?_⟩
  obtain ⟨e1, e2, e3⟩ := hc' j hj
  have lg := lt_of_cell e1
  exact ⟨(hc.cell lg (fun hm => hS g hm hp)).trans e1, (hc.cell (p := ⟨g, off + j * 3 + 1, none⟩) lg (fun hm => hS g hm hp)).trans e2, (hc.cell (p := ⟨g, off + j * 3 + 2, none⟩) lg (fun hm => hS g hm hp)).trans e3⟩
theorem StepL.at {p : Nat → Prop} {w : World} {a : Option Addr} {n cap e : Nat} {Q : PS} (h : StepL p w (.slice a n cap) e Q) (j : Nat) (hj : j < Q.length) :
    ∃ g off, a = some ⟨g, off, none⟩ ∧ w.cell? ⟨g, off + j * 3, none⟩ = some (.int .i64 ((Q.getD j dPS).1 : Int)) ∧ w.cell? ⟨g, off + j * 3 + 1, none⟩ = some (.int .i64 ((Q.getD j dPS).2 : Int)) ∧ w.cell? ⟨g, off + j * 3 + 2, none⟩ = some (.int .i64 (e : Int)) := by
  obtain ⟨a', cap', he, h1, h2, h2', h3⟩ := h
  obtain ⟨g, off, rfl, hp, hc⟩ := h3 (by omega)
  cases he
  exact ⟨g, off, rfl, hc j hj⟩
theorem StepL.take {p : Nat → Prop} {w : World} {a : Option Addr} {n cap e : Nat} {Q : PS} (h : StepL p w (.slice a n cap) e Q) (m : Nat) (hm : m ≤ Q.length) : StepL p w (.slice a m cap) e (Q.take m) := by
  obtain ⟨a', cap', he, h1, h2, h2', h3⟩ := h
  cases he
  have hl : (Q.take m).length = m := by rw [List.length_take]; omega
  refine ⟨a, cap, by rw [hl], by omega, by omega, h2', fun h0 => ?_⟩
  obtain ⟨g, off, rfl, hp, hc⟩ := h3 (by omega)
  refine ⟨g, off, rfl, hp, fun j hj => ?_⟩
  have : (Q.take m).getD j dPS = Q.getD j dPS := by rw [List.getD_eq_getElem?_getD, List.getElem?_take, if_pos (by omega), ← List.getD_eq_getElem?_getD]
  rw [this]
  exact hc j (by omega)
theorem StepL.imp {p q : Nat → Prop} {w : World} {v : Value} {e : Nat} {Q : PS} (h : StepL p w v e Q) (hpq : ∀ g, p g → q g) : StepL q w v e Q := by
  obtain ⟨a, cap, rfl, h1, h2, h2', h3⟩ := h
  exact ⟨a, cap, rfl, h1, h2, h2', fun h0 => by obtain ⟨g, off, rfl, hp, hc'⟩ := h3 h0; exact ⟨g, off, rfl, hpq g hp, hc'⟩⟩
theorem stepL_of_own {w : World} {base : Nat} {v : Value} {e : Nat} {Q : PS} (h : w.ownsRow base 59 3 v Q.length (flatD e Q)) (hl : Q.length ≤ 100) (hcap : ∀ a n c, v = .slice a n c → c ≤ maxLen) : StepL (fun g => base ≤ g ∧ g < w.heap.size) w v e Q := by
  rcases h.2 with ⟨hv, hn⟩ | ⟨g, cap, cur, rfl, h1, h2, h3, h4, h5, h6⟩
  · subst hv
    exact ⟨none, 0, by rw [hn], by omega, by omega, by unfold maxLen; omega, fun h0 => by omega⟩
  · refine ⟨_, cap, rfl, h3, hl, hcap _ _ _ rfl, fun _ => ⟨g, 0, rfl, ⟨h1, lt_of_obj h2⟩, fun j hj => ?_⟩⟩
    obtain ⟨f0, f1, f2⟩ := flatD_get e Q j hj
    rw [Nat.zero_add]
    exact ⟨h.cells (g := g) rfl _ _ f0 |> (fun q => by simpa [Addr.add_lit] using q), h.cells (g := g) rfl _ _ f1 |> (fun q => by simpa [Addr.add_lit] using q), h.cells (g := g) rfl _ _ f2 |> (fun q => by simpa [Addr.add_lit] using q)⟩
theorem natBeq (s t : Nat) : (s == t) = ((s : Int) == (t : Int)) := by
  by_cases h : s = t
  · subst h; simp
  · rw [beq_false_of_ne h]; exact (beq_false_of_ne (by omega)).symm
/-! ### Derive's test -/
theorem derive1_any (w : World) (bs st s k e : Nat) (h : w.cell? ⟨bs, 0, none⟩ = some (nv st)) :
    Calls Try.prog 27 #[.agg #[nv s, nv k, nv e], .pointer (some ⟨bs, 0, none⟩)] w fun o w' => o = .returned (.bool (s == st)) ∧ Chg [] w w' := by
  have q0 : w.cell? ⟨bs, 0, none⟩ = some (.int .i64 (st : Int)) := h
  have lb := lt_of_cell q0
  clear h
  show Calls Try.prog _ #[.agg #[.int .i64 (s : Int), .int .i64 (k : Int), .int .i64 (e : Int)], _] w _
  go_enter Try.func27, Try.ntmps27
  go_wp2
  go_ret
  refine ⟨?_, (Chg.refl _ _).alloc _⟩
  rw [show (s == st) = ((s : Int) == (st : Int)) from natBeq s st]
  rfl
set_option maxHeartbeats 1000000 in
theorem idxS_any (p : Nat → Prop) (w : World) (bs st : Nat) (v : Value) (e : Nat) (Q : PS) (hl : StepL p w v e Q) (hb : w.cell? ⟨bs, 0, none⟩ = some (nv st)) :
    Calls Try.prog 26 #[v, .func (.func 27) #[] #[.pointer (some ⟨bs, 0, none⟩)]] w fun o w' => (∃ z, o = .returned (.int .i64 z) ∧ FPost (fun t => t.1 == st) Q dPS z) ∧ Chg [] w w' := by
  obtain ⟨a, cap, rfl, hl1, hl2, hl3, hc⟩ := id hl
  have Hl := Lib.hid hl
  have Hb := Lib.hid hb; clear hb
  clear hl hc
  go_enter Try.func26, Try.ntmps26
  go_wp2
  go_loopw [8] (fun i wr => ∃ k : Nat, k ≤ Q.length ∧ i = .int .i64 (k : Nat) ∧ Hid (∀ r ∈ Q.take k, (r.1 == st) = false) ∧ Chg [] w wr) (fun i _ => Q.length - (intOf i).toNat)
  case atStart => exact ⟨0, by omega, rfl, Lib.hid (by simp), Chg.refl _ _⟩
  case round =>
    obtain ⟨k, hk, rfl, Hn, hcw⟩ := hrel
    by_cases hlt : k < Q.length
    · obtain ⟨g, off, rfl, q0, q1, q2⟩ := (Hl.out.kept hcw (by simp)).at k hlt
      have lg := lt_of_cell q0
      obtain ⟨r, hr⟩ : ∃ r, Q.getD k dPS = r := ⟨_, rfl⟩
      rw [hr] at q0 q1
      have Hr := Lib.hid hr
      have Ha := Lib.hid (derive1_any wr bs st r.1 r.2 e ((hcw.cell (p := ⟨bs, 0, none⟩) (lt_of_cell Hb.out) (by simp)).trans Hb.out))
      clear hr
      have hk1 : (k : Int) < Q.length := by omega
      go_wp2_with fail
      refine Ha.out.mono ?_
      rintro o w1 ⟨rfl, c1⟩
      cases hb : r.1 == st
      · go_wp2
        exact ⟨⟨k + 1, by omega, by go_num, Lib.hid (mem_take_succ hlt dPS Hn.out (by rw [Hr.out, hb])), hcw.trans c1⟩, by simp [intOf]; omega⟩
      · go_wp2
        go_ret
        exact ⟨⟨_, rfl, .inl ⟨k, hlt, rfl, by show ((Q.getD k dPS).1 == st) = true; rw [Hr.out, hb]⟩⟩, hcw.trans c1⟩
    · obtain rfl : k = Q.length := by omega
      go_wp2
      go_ret
      exact ⟨⟨_, rfl, .inr ⟨rfl, by have := Hn.out; rw [List.take_length] at this; exact this⟩⟩, hcw⟩
end Go.Proofs.Ytaciceaipmclgaa
