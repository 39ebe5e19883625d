/- Check. -/
import Derived.Test.YtggiddhhbilcjaaQryD
import Derived.Test.YtggiddhhbilcjaaFidx
namespace Go.Proofs.Ytggiddhhbilcjaa
open Go.RowKit
set_option linter.unusedVariables false
def longQ (ops : List QO) : Bool := decide (20 < ops.length)
theorem tooLong_any (w : World) (a : Option Addr) (cap : Nat) (ops : List QO) (hm : ops.length ≤ maxLen) :
    Calls Try.prog 56 #[.slice a ops.length cap] w fun e w' => e = .returned (.bool (longQ ops)) ∧ w = w' := by
  unfold maxLen at hm
  by_cases h : 20 < ops.length
  · have hb : longQ ops = true := decide_eq_true h
    have Hb := Lib.hid hb
    have h' : (20 : Int) < ops.length := by omega
    clear hb
    go_enter Try.func56, Try.ntmps56
    go_wp2
    go_ret
    exact ⟨by rw [Hb.out]; rfl, rfl⟩
  · have hb : longQ ops = false := decide_eq_false h
    have Hb := Lib.hid hb
    have h' : decide ((20 : Int) < ops.length) = false := decide_eq_false (by omega)
    clear hb
    go_enter Try.func56, Try.ntmps56
    go_wp2
    go_ret
    exact ⟨by rw [Hb.out]; rfl, rfl⟩
set_option maxHeartbeats 1000000 in
theorem idxQ_any (p : Nat → Prop) (w : World) (v : Value) (qs : List (List QO)) (hq : I3ss p w v qs) :
    Calls Try.prog 78 #[v, .func (.func 56) #[] #[]] w fun e w' => e = .returned (.int .i64 (fidx longQ qs)) ∧ w = w' := by
  obtain ⟨av, capv, rfl, hlm, hlc⟩ := hq.shape
  have Hq := Lib.hid hq
  clear hq
  unfold maxLen at hlm
  go_enter Try.func78, Try.ntmps78
  go_wp2
  go_loop [8] (fun i => ∃ k : Nat, k ≤ qs.length ∧ i = .int .i64 (k : Nat) ∧ (∀ r ∈ qs.take k, longQ r = false)) (fun i => qs.length - (intOf i).toNat)
  case atStart => exact ⟨0, by omega, rfl, by simp⟩
  case round =>
    obtain ⟨k, hk, rfl, hn⟩ := hrel
    have Hn := Lib.hid hn
    clear hn
    by_cases hlt : k < qs.length
    · obtain ⟨g, off, rfl, _, u, q0, hu⟩ := SlR.at Hq.out k hlt []
      rw [Nat.mul_one] at q0
      have lg := lt_of_cell q0
      obtain ⟨au, capu, rfl, hum, huc⟩ := hu.shape
      clear hu
      obtain ⟨r, hr⟩ : ∃ r, qs.getD k [] = r := ⟨_, rfl⟩
      rw [hr] at q0 hum huc
      have Hr := Lib.hid hr
      clear hr
      have hk1 : (k : Int) < qs.length := by omega
      go_wp2_with fail
      refine (tooLong_any _ _ _ r hum).mono ?_
      rintro e w1 ⟨rfl, rfl⟩
      cases hb : longQ r
      · go_wp2
        exact ⟨⟨k + 1, by omega, by go_num, memTake hlt [] Hn.out (by rw [Hr.out, hb])⟩, by simp [intOf]; omega⟩
      · have hf := fidx_some longQ qs k hlt [] Hn.out (by rw [Hr.out, hb])
        have Hf := Lib.hid hf
        clear hf
        go_wp2
        go_ret
        exact ⟨by rw [Hf.out]; rfl, rfl⟩
    · obtain rfl : k = qs.length := by omega
      have hf := fidx_none longQ qs (by have := Hn.out; rw [List.take_length] at this; exact this)
      have Hf := Lib.hid hf
      clear hf
      go_wp2
      go_ret
      exact ⟨by rw [Hf.out]; rfl, rfl⟩
theorem cfQ_any (p : Nat → Prop) (w : World) (v : Value) (qs : List (List QO)) (hq : I3ss p w v qs) :
    Calls Try.prog 57 #[v, .func (.func 56) #[] #[]] w fun e w' => e = .returned (.bool (qs.any longQ)) ∧ w = w' := by
  have hd := fidx_any longQ qs
  have Hd := Lib.hid hd
  clear hd
  go_enter Try.func57, Try.ntmps57
  go_wp2_with fail
  refine (idxQ_any p _ v qs hq).mono ?_
  rintro e w1 ⟨rfl, rfl⟩
  generalize fidx longQ qs = z at Hd
  by_cases hz : 0 ≤ z
  · have hany : qs.any longQ = true := by rw [← Hd.out]; simpa using hz
    have Hany := Lib.hid hany
    clear hany
    have hzd : decide (0 ≤ z) = true := by simpa using hz
    go_wp2
    go_ret
    exact ⟨by rw [Hany.out]; rfl, rfl⟩
  · have hany : qs.any longQ = false := by rw [← Hd.out]; simpa using hz
    have Hany := Lib.hid hany
    clear hany
    have hzd : decide (0 ≤ z) = false := by simpa using hz
    go_wp2
    go_ret
    exact ⟨by rw [Hany.out]; rfl, rfl⟩
def PrgPost (inp : Int) (qs : List (List QO)) (w : World) (e : Ending) (w' : World) : Prop := ∃ c : Int, e = .returned (.int .i64 c) ∧ (c = 0 ↔ PrgOk ⟨inp, qs⟩) ∧ Chg [] w w'
theorem PrgPost.no {inp : Int} {qs : List (List QO)} {w w' : World} {c : Int} (hc : c ≠ 0) (hn : ¬ PrgOk ⟨inp, qs⟩) (h : Chg [] w w') : PrgPost inp qs w (.returned (.int .i64 c)) w' := ⟨c, rfl, ⟨fun e => absurd e hc, fun e => absurd e hn⟩, h⟩
theorem any_longQ {qs : List (List QO)} : qs.any longQ = false ↔ ∀ l ∈ qs, l.length ≤ 20 := by
  rw [List.any_eq_false]
  constructor
  · intro h j hj
    have := h j hj
    simp [longQ] at this
    omega
  · intro h j hj
    have := h j hj
    simp [longQ]
    omega
set_option maxHeartbeats 2000000 in
theorem checkP_any (p : Nat → Prop) (w : World) (inp : Int) (qs : List (List QO)) (v : Value) (hq : I3ss p w v qs) :
    Calls Try.prog 28 #[.agg #[.int .i64 inp, v]] w (PrgPost inp qs w) := by
  obtain ⟨av, capv, rfl, hlm, hlc⟩ := hq.shape
  have Hq := Lib.hid hq
  clear hq
  unfold maxLen at hlm
  have hc0 : Chg [] w (w.alloc (.cells #[.int .i64 inp, .slice av qs.length capv] 24)) := (Chg.refl [] w).alloc _
  have Hc0 := Lib.hid hc0
  clear hc0
  by_cases hi : 40 < inp
  · go_enter Try.func28, Try.ntmps28
    go_wp2
    go_ret
    exact PrgPost.no (by omega) (fun h => by have := h.inp.2; simp only at this; omega) Hc0.out
  · by_cases hs : 40 < qs.length
    · have hs' : (40 : Int) < qs.length := by omega
      go_enter Try.func28, Try.ntmps28
      go_wp2
      go_ret
      exact PrgPost.no (by omega) (fun h => by have := h.size; simp only at this; omega) Hc0.out
    · have hs' : ¬ (40 : Int) < qs.length := by omega
      go_enter Try.func28, Try.ntmps28
      go_wp2_with fail
      refine (cfQ_any p _ _ qs (Hq.out.kept (Hc0.out.p (S := fun _ => False)) (fun _ _ h => h))).mono ?_
      rintro e w1 ⟨rfl, rfl⟩
      cases hb : qs.any longQ with
      | true =>
        go_wp2
        go_ret
        exact PrgPost.no (by omega) (fun h => by
          rw [any_longQ.2 (fun l hl => by
            obtain ⟨i, hi, rfl⟩ := List.getElem_of_mem hl
            have := (h.qs i hi).size
            simpa [hi] using this)] at hb
          cases hb) Hc0.out
      | false =>
        have Hb := Lib.hid (any_longQ.1 hb)
        clear hb
        by_cases hneg : inp < 0
        · go_wp2
          go_ret
          exact PrgPost.no (by omega) (fun h => by have := h.inp.1; simp only at this; omega) Hc0.out
        · go_wp2
          go_loopw [27] (fun jj wr => ∃ k : Nat, k ≤ qs.length ∧ jj = .int .i64 (k : Nat) ∧ (∀ i, i < k → QChk inp (i : Int) (qs.getD i [])) ∧ Chg [] (w.alloc (.cells #[.int .i64 inp, .slice av qs.length capv] 24)) wr) (fun jj _ => qs.length - (intOf jj).toNat)
          case atStart => exact ⟨0, by omega, rfl, fun i hi => absurd hi (by omega), Chg.refl _ _⟩
          case round =>
            obtain ⟨k, hk, rfl, hn, hcw⟩ := hrel
            have Hn := Lib.hid hn
            have Hcw := Lib.hid hcw
            have m0 := (hcw.cell (p := ⟨w.heap.size, 0, none⟩) (by simp) (by simp)).trans (cell_of_heap (heap_at _ _ _ rfl) rfl)
            have m1 := (hcw.cell (p := ⟨w.heap.size, 1, none⟩) (by simp) (by simp)).trans (cell_of_heap (heap_at _ _ _ rfl) rfl)
            have lm := lt_of_cell m0
            clear hn hcw
            by_cases hlt : k < qs.length
            · have hk1 : (k : Int) < qs.length := by omega
              go_wp2_with fail
              refine (checkQuery_any p _ inp qs _ k (Hq.out.kept ((Hc0.out.trans Hcw.out).p (S := fun _ => False)) (fun _ _ h => h)) hlt).mono ?_
              rintro e w1 ⟨c, rfl, hc, c1⟩
              by_cases hok : QChk inp (k : Int) (qs.getD k [])
              · obtain rfl : c = 0 := hc.2 hok
                have Hok := Lib.hid hok
                clear hc hok
                go_wp2
                exact ⟨⟨k + 1, by omega, by go_num, fun i hi => by
                  by_cases e : i = k
                  · subst e; exact Hok.out
                  · exact Hn.out i (by omega), Hcw.out.trans c1⟩, by simp [intOf]; omega⟩
              · have hc0 : c ≠ 0 := fun e => hok (hc.1 e)
                have hcb : (c != 0) = true := by rw [bne_iff_ne]; exact hc0
                have Hok := Lib.hid hok
                have Hc1 := Lib.hid hc0
                clear hc hok hc0
                go_wp2
                go_ret
                exact PrgPost.no Hc1.out (fun h => Hok.out ⟨(h.qs k hlt).each, (h.qs k hlt).dep⟩) ((Hc0.out.trans Hcw.out).trans c1)
            · obtain rfl : k = qs.length := by omega
              have hok : PrgOk ⟨inp, qs⟩ := ⟨⟨by simp only; omega, by simp only; omega⟩, by simp only; omega, fun i hi => ⟨Hb.out _ (getD_memb hi []), (Hn.out i hi).1, (Hn.out i hi).2⟩⟩
              have Hok := Lib.hid hok
              clear hok
              go_wp2
              go_ret
              exact ⟨0, rfl, ⟨fun _ => Hok.out, fun _ => rfl⟩, Hc0.out.trans Hcw.out⟩
end Go.Proofs.Ytggiddhhbilcjaa
