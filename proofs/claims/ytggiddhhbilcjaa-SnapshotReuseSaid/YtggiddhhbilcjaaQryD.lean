/- checkQuery, Check. -/
import Derived.Test.YtggiddhhbilcjaaQryC
namespace Go.Proofs.Ytggiddhhbilcjaa
open Go.RowKit
set_option linter.unusedVariables false
/-- what checkQuery asks -/
def QChk (inp idx : Int) (ops : List QO) : Prop := (∀ o ∈ ops, OpOk inp idx o) ∧ dep ops 0 = some 1
def QChkPost (inp idx : Int) (ops : List QO) (w : World) (e : Ending) (w' : World) : Prop := ∃ c : Int, e = .returned (.int .i64 c) ∧ (c = 0 ↔ QChk inp idx ops) ∧ Chg [] w w'
theorem QChkPost.no {inp idx : Int} {ops : List QO} {w w' : World} {c : Int} (hc : c ≠ 0) (hn : ¬ QChk inp idx ops) (h : Chg [] w w') : QChkPost inp idx ops w (.returned (.int .i64 c)) w' := ⟨c, rfl, ⟨fun e => absurd e hc, fun e => absurd e hn⟩, h⟩
theorem pops_le (o : QO) : pops o ≤ 2 := by
  unfold pops
  split
  · omega
  · split <;> omega
theorem dep_cons (o : QO) (r : List QO) (d : Nat) : dep (o :: r) d = if d < pops o then none else dep r (d + 1 - pops o) := rfl
theorem drop_cons {α : Type} (l : List α) (k : Nat) (hk : k < l.length) (d : α) : l.drop k = l.getD k d :: l.drop (k + 1) := by
  rw [List.drop_eq_getElem_cons hk]
  simp [hk]
theorem memTake {α : Type} {l : List α} {k : Nat} (hk : k < l.length) (d : α) {P : α → Prop} (h : ∀ x ∈ l.take k, P x) (h1 : P (l.getD k d)) : ∀ x ∈ l.take (k + 1), P x := by
  intro x hx
  rw [fold_take_snoc l k hk d, List.mem_append, List.mem_singleton] at hx
  rcases hx with hx | rfl
  · exact h x hx
  · exact h1
/-- a program, read: its queries' slice -/
def QsAt (p : Nat → Prop) (w : World) (v : Value) (qs : List (List QO)) : Prop := I3ss p w v qs
set_option maxHeartbeats 2000000 in
theorem checkQuery_any (p : Nat → Prop) (w : World) (inp : Int) (qs : List (List QO)) (v : Value) (i : Nat) (hqs : I3ss p w v qs) (hi : i < qs.length) :
    Calls Try.prog 58 #[.agg #[.int .i64 inp, v], .int .i64 (i : Int)] w (QChkPost inp (i : Int) (qs.getD i []) w) := by
  obtain ⟨av, capv, rfl, hlm, hlc⟩ := hqs.shape
  obtain ⟨g, off, rfl, hp, u, q0, hu⟩ := SlR.at hqs i hi []
  rw [Nat.mul_one] at q0
  obtain ⟨au, capu, rfl, hum, huc⟩ := hu.shape
  have Hu := Lib.hid hu
  obtain ⟨ops, hops⟩ : ∃ ops, qs.getD i [] = ops := ⟨_, rfl⟩
  rw [hops] at q0 hum huc Hu
  rw [hops]
  clear hu hops hqs
  unfold maxLen at hum hlm
  have lg := lt_of_cell q0
  have hi1 : (i : Int) < qs.length := by omega
  go_enter Try.func58, Try.ntmps58
  go_wp2
  go_loopw [5, 16] (fun dd jj wr => ∃ k d : Nat, k ≤ ops.length ∧ jj = .int .i64 (k : Nat) ∧ dd = .int .i64 (d : Nat) ∧ d ≤ k ∧ (∀ o ∈ ops.take k, OpOk inp i o) ∧ dep ops 0 = dep (ops.drop k) d ∧ Chg [] (w.alloc (.cells #[.int .i64 inp, .slice (some ⟨g, off, none⟩) qs.length capv] 24)) wr) (fun _ jj _ => ops.length - (intOf jj).toNat)
  case atStart => exact ⟨0, 0, by omega, rfl, rfl, by omega, by simp, by simp, Chg.refl _ _⟩
  case round =>
    obtain ⟨k, d, hk, rfl, rfl, hdk, hn, hd, hcw⟩ := hrel
    have Hn := Lib.hid hn
    have Hd := Lib.hid hd
    have Hcw := Lib.hid hcw
    have Hch := Lib.hid ((((Chg.refl [] w).alloc _).trans hcw) : Chg [] w wr)
    have m0 := (hcw.cell (p := ⟨w.heap.size, 0, none⟩) (by simp) (by simp)).trans (cell_of_heap (heap_at _ _ _ rfl) rfl)
    have m1 := (hcw.cell (p := ⟨w.heap.size, 1, none⟩) (by simp) (by simp)).trans (cell_of_heap (heap_at _ _ _ rfl) rfl)
    clear hn hd hcw
    by_cases hlt : k < ops.length
    · have hrd := Hu.out.kept (Hch.out.p (S := fun _ => False)) (fun _ _ h => h)
      obtain ⟨g2, off2, rfl, _, q1, q2, q3⟩ := SlR.at hrd k hlt (0, 0, 0)
      have hdr := drop_cons ops k hlt (0, 0, 0)
      have hmem := getD_memb hlt (0, 0, 0)
      obtain ⟨o, ho⟩ : ∃ o, ops.getD k (0, 0, 0) = o := ⟨_, rfl⟩
      rw [ho] at q1 q2 q3 hdr hmem
      have Ho := Lib.hid ho
      have hd := Hd.out
      rw [hdr, dep_cons] at hd
      obtain ⟨op, oa, ob⟩ := o
      simp only at q1 q2 q3
      have Hd2 := Lib.hid hd
      have Hmem := Lib.hid hmem
      clear hd hdr hrd hmem ho
      have lg2 := lt_of_cell q1
      have lm := lt_of_cell m0
      have hk1 : (k : Int) < ops.length := by omega
      by_cases hk0 : 1 ≤ op
      · by_cases hk12 : op < 12
        · have hk12' : ¬ (12 ≤ op) := by omega
          have hk0' : ¬ (op < 1) := by omega
          have hpl := pops_le (op, oa, ob)
          go_wp2_with fail
          refine (operands_any inp i _ (op, oa, ob) _).mono ?_
          rintro e w1 ⟨rfl, c1⟩
          have hv := opVal_iff inp i (op, oa, ob) ⟨hk0, hk12⟩
          obtain ⟨pp, hpp⟩ : ∃ pp, pops (op, oa, ob) = pp := ⟨_, rfl⟩
          rw [hpp] at hpl Hd2
          rw [hpp]
          clear hpp
          cases hov : opVal inp i (op, oa, ob) with
          | true =>
            have Hok := Lib.hid (hv.1 hov)
            clear hv hov
            by_cases hdp : d < pp
            · have hdp' : (d : Int) < (pp : Int) := by omega
              have hno : ¬ QChk inp i ops := fun h => by
                have h1 := Hd2.out
                rw [if_pos hdp, h.2] at h1
                cases h1
              have Hno := Lib.hid hno
              clear hno
              go_wp2
              go_ret
              exact QChkPost.no (by omega) Hno.out ((Hch.out.alloc _).trans c1)
            · have hdp' : ¬ (d : Int) < (pp : Int) := by omega
              have h1 := Hd2.out
              rw [if_neg hdp] at h1
              have H1 := Lib.hid h1
              clear h1
              go_wp2
              exact ⟨⟨k + 1, d + 1 - pp, by omega, by go_num, by congr 1; omega, by omega, memTake hlt (0, 0, 0) Hn.out (by rw [Ho.out]; exact Hok.out), H1.out, (Hcw.out.alloc _).trans c1⟩, by simp [intOf]; omega⟩
          | false =>
            have hno : ¬ QChk inp i ops := fun h => by
              have h1 := hv.2 (h.1 _ Hmem.out)
              rw [hov] at h1
              cases h1
            have Hno := Lib.hid hno
            clear hv hov hno
            go_wp2
            go_ret
            exact QChkPost.no (by omega) Hno.out ((Hch.out.alloc _).trans c1)
        · have hk12' : 12 ≤ op := by omega
          have hk0' : ¬ (op < 1) := by omega
          have hno : ¬ QChk inp i ops := fun h => by
            have h1 := (h.1 _ Hmem.out).1.2
            simp only at h1
            omega
          have Hno := Lib.hid hno
          clear hno
          go_wp2
          go_ret
          exact QChkPost.no (by omega) Hno.out (Hch.out.alloc _)
      · have hk0' : op < 1 := by omega
        have hno : ¬ QChk inp i ops := fun h => by
          have h1 := (h.1 _ Hmem.out).1.1
          simp only at h1
          omega
        have Hno := Lib.hid hno
        clear hno
        go_wp2
        go_ret
        exact QChkPost.no (by omega) Hno.out (Hch.out.alloc _)
    · obtain rfl : k = ops.length := by omega
      have hd := Hd.out
      rw [List.drop_length] at hd
      have hall := Hn.out
      rw [List.take_length] at hall
      by_cases hd1 : d = 1
      · subst hd1
        have Hok := Lib.hid (⟨hall, hd⟩ : QChk inp i ops)
        clear hd hall
        go_wp2
        go_ret
        exact ⟨0, rfl, ⟨fun _ => Hok.out, fun _ => rfl⟩, Hch.out⟩
      · have hno : ¬ QChk inp i ops := fun h => by
          rw [h.2] at hd
          simp only [dep, Option.some.injEq] at hd
          omega
        have Hno := Lib.hid hno
        have hb : ((d : Int) != 1) = true := by rw [bne_iff_ne]; omega
        clear hd hall hno hd1
        go_wp2
        go_ret
        exact QChkPost.no (by omega) Hno.out Hch.out
end Go.Proofs.Ytggiddhhbilcjaa
