/- Check, Least. -/
import Derived.Test.YtaciceaipmclgaaFixF
namespace Go.Proofs.Ytaciceaipmclgaa
open Go.RowKit
set_option linter.unusedVariables false
/-- what Check says of R -/
def ChkPost (R : Rules) (w : World) (e : Ending) (w' : World) : Prop := ∃ c : Int, e = .returned (.int .i64 c) ∧ (c = 0 ↔ Okr R) ∧ Chg [] w w'
theorem ChkPost.no {R : Rules} {w w' : World} {c : Int} (hc : c ≠ 0) (hn : ¬ Okr R) (h : Chg [] w w') : ChkPost R w (.returned (.int .i64 c)) w' := ⟨c, rfl, ⟨fun e => absurd e hc, fun e => absurd e hn⟩, h⟩
/-- the sizes are right -/
def SzOk (l : List Rule) : Prop := l.length ≤ 20 ∧ ∀ r ∈ l, r.2.length ≤ 60
/-- a rule is right -/
def RuOk (n : Nat) (r : Rule) : Prop := (0 ≤ r.1 ∧ r.1 ≤ 1048575) ∧ ∀ j ∈ r.2, 0 ≤ j ∧ j < (n : Int)
theorem okr_of {R : Rules} (h0 : R.length ≤ 60) (h1 : ∀ l ∈ R, SzOk l) (h2 : ∀ l ∈ R, ∀ r ∈ l, RuOk R.length r) : Okr R :=
  ⟨h0, fun l hl => (h1 l hl).1, fun l hl => (h1 l hl).2, fun l hl r hr => (h2 l hl r hr).1, fun l hl r hr => (h2 l hl r hr).2⟩
theorem mem_take_succ {α : Type} {l : List α} {k : Nat} (hk : k < l.length) (d : α) {P : α → Prop} (h : ∀ x ∈ l.take k, P x) (h1 : P (l.getD k d)) : ∀ x ∈ l.take (k + 1), P x := by
  intro x hx
  rw [take_snoc l k hk d, List.mem_append, List.mem_singleton] at hx
  rcases hx with hx | rfl
  · exact h x hx
  · exact h1
theorem getD_mem {α : Type} {l : List α} {k : Nat} (hk : k < l.length) (d : α) : l.getD k d ∈ l := by simp [hk]
theorem any_badJ {n : Nat} {xs : List Int} : xs.any (badJ n) = false ↔ ∀ j ∈ xs, 0 ≤ j ∧ j < (n : Int) := by
  rw [List.any_eq_false]
  constructor
  · intro h j hj
    have := h j hj
    simp [badJ] at this
    omega
  · intro h j hj
    have := h j hj
    simp [badJ]
    omega
theorem any_bigR {l : List Rule} : l.any bigR = false ↔ ∀ r ∈ l, r.2.length ≤ 60 := by
  rw [List.any_eq_false]
  constructor
  · intro h j hj
    have := h j hj
    simp [bigR] at this
    omega
  · intro h j hj
    have := h j hj
    simp [bigR]
    omega
set_option maxHeartbeats 2000000 in
theorem check_any (p : Nat → Prop) (w : World) (R : Rules) (v : Value) (hR : RulesAt p w v R) : Calls Try.prog 18 #[v] w (ChkPost R w) := by
  obtain ⟨av, capv, rfl⟩ : ∃ a cap, v = .slice a R.length cap := by obtain ⟨a, cap, h, _⟩ := hR; exact ⟨a, cap, h⟩
  have hlm : R.length ≤ maxLen := by obtain ⟨a, cap, h, _, h2, _⟩ := hR; exact h2
  unfold maxLen at hlm
  have HR := Lib.hid hR
  clear hR
  by_cases hbig : 60 < R.length
  · have hbig' : (60 : Int) < R.length := by omega
    go_enter Try.func18, Try.ntmps18
    go_wp2
    go_ret
    exact ChkPost.no (by omega) (fun h => by have := h.size; omega) ((Chg.refl _ _).alloc _)
  · have hbig' : ¬ (60 : Int) < R.length := by omega
    go_enter Try.func18, Try.ntmps18
    go_wp2
    go_loopw [14] (fun i wr => ∃ k : Nat, k ≤ R.length ∧ i = .int .i64 (k : Nat) ∧ (∀ l ∈ R.take k, SzOk l) ∧ Chg [] (w.alloc (.cells #[.slice av R.length capv] 22)) wr) (fun i _ => R.length - (intOf i).toNat)
    case atStart => exact ⟨0, by omega, rfl, by simp, Chg.refl _ _⟩
    case round =>
      obtain ⟨k, hk, rfl, hn, hcw⟩ := hrel
      have Hn := Lib.hid hn
      have Hcw := Lib.hid hcw
      clear hn hcw
      have hch : Chg [] w wr := ((Chg.refl _ _).alloc _).trans Hcw.out
      by_cases hlt : k < R.length
      · obtain ⟨g, off, u, rfl, q0, hl⟩ := (HR.out.kept hch (by simp)).at k hlt
        have lg := lt_of_cell q0
        obtain ⟨au, capu, rfl, hml⟩ := hl.shape
        unfold maxLen at hml
        have Hl := Lib.hid hl
        clear hl
        obtain ⟨l, hle⟩ : ∃ l, R.getD k [] = l := ⟨_, rfl⟩
        have hlR : l ∈ R := by rw [← hle]; exact getD_mem hlt []
        rw [hle] at q0 hml Hl
        have Hle := Lib.hid hle
        have HlR := Lib.hid hlR
        clear hle hlR
        have hk1 : (k : Int) < R.length := by omega
        by_cases hl20 : 20 < l.length
        · have hl20' : (20 : Int) < l.length := by omega
          go_wp2
          go_ret
          exact ChkPost.no (by omega) (fun h => by have := h.rules l HlR.out; omega) hch
        · have hl20' : ¬ (20 : Int) < l.length := by omega
          go_wp2_with fail
          refine (cf1_any p _ _ l Hl.out).mono ?_
          rintro e w1 ⟨rfl, c1⟩
          cases hb : l.any bigR
          · go_wp2
            exact ⟨⟨k + 1, by omega, by go_num, mem_take_succ hlt [] Hn.out (by rw [Hle.out]; exact ⟨by omega, any_bigR.1 hb⟩), Hcw.out.trans c1⟩, by simp [intOf]; omega⟩
          · go_wp2
            go_ret
            exact ChkPost.no (by omega) (fun h => by rw [any_bigR.2 (h.all l HlR.out)] at hb; exact absurd hb (by simp)) (hch.trans c1)
      · obtain rfl : k = R.length := by omega
        have hsz : ∀ l ∈ R, SzOk l := by have := Hn.out; rw [List.take_length] at this; exact this
        have Hsz := Lib.hid hsz
        clear hsz
        obtain ⟨w4, rfl⟩ : ∃ x, x = wr := ⟨_, rfl⟩
        have qc : w4.cell? ⟨w.heap.size, 0, none⟩ = some (.slice av R.length capv) := (Hcw.out.cell (by simp) (by simp)).trans (cell_of_heap (heap_at _ _ _ rfl) rfl)
        have lgc := lt_of_cell qc
        go_wp2
        go_loopw [28] (fun i wr => ∃ k : Nat, k ≤ R.length ∧ i = .int .i64 (k : Nat) ∧ (∀ l ∈ R.take k, ∀ r ∈ l, RuOk R.length r) ∧ Chg [] w4 wr) (fun i _ => R.length - (intOf i).toNat)
        case atStart => exact ⟨0, by omega, rfl, by simp, Chg.refl _ _⟩
        case round =>
          obtain ⟨i, hi, rfl, hn, hcw⟩ := hrel
          have Hn2 := Lib.hid hn
          clear hn
          have Hch2 := Lib.hid (hch.trans hcw)
          by_cases hlt : i < R.length
          · obtain ⟨g, off, u, rfl, q0, hl⟩ := (HR.out.kept Hch2.out (by simp)).at i hlt
            have lg := lt_of_cell q0
            obtain ⟨au, capu, rfl, hml⟩ := hl.shape
            unfold maxLen at hml
            have Hl := Lib.hid hl
            clear hl
            obtain ⟨l, hle⟩ : ∃ l, R.getD i [] = l := ⟨_, rfl⟩
            have hlR : l ∈ R := by rw [← hle]; exact getD_mem hlt []
            rw [hle] at q0 hml Hl
            have Hle := Lib.hid hle
            have HlR := Lib.hid hlR
            have Hcw2 := Lib.hid hcw
            clear hle hlR hcw
            have hi1 : (i : Int) < R.length := by omega
            obtain ⟨w5, rfl⟩ : ∃ x, x = wr := ⟨_, rfl⟩
            go_wp2
            go_loopw [34] (fun i wr => ∃ k : Nat, k ≤ l.length ∧ i = .int .i64 (k : Nat) ∧ (∀ r ∈ l.take k, RuOk R.length r) ∧ Chg [] w5 wr) (fun i _ => l.length - (intOf i).toNat)
            case atStart => exact ⟨0, by omega, rfl, by simp, Chg.refl _ _⟩
            case round =>
              obtain ⟨k, hk, rfl, hn, hcw⟩ := hrel
              have Hn3 := Lib.hid hn
              clear hn
              have Hcw3 := Lib.hid hcw
              have qc3 := ((Hcw2.out.trans hcw).cell (p := ⟨w.heap.size, 0, none⟩) lgc (by simp)).trans qc
              by_cases hlt2 : k < l.length
              · obtain ⟨g2, off2, u2, rfl, q1, q2, hints⟩ := (Hl.out.kept hcw (by simp)).at k hlt2
                have lg2 := lt_of_cell q1
                have lgc3 := lt_of_cell qc3
                obtain ⟨a3, cap3, rfl⟩ := SlF.shape hints
                have Hints := Lib.hid hints
                clear hints hcw
                obtain ⟨r, hre⟩ : ∃ r, l.getD k (0, []) = r := ⟨_, rfl⟩
                have hrl : r ∈ l := by rw [← hre]; exact getD_mem hlt2 _
                rw [hre] at q1 q2 Hints
                have Hre := Lib.hid hre
                have Hrl := Lib.hid hrl
                clear hre hrl
                have hk1 : (k : Int) < l.length := by omega
                by_cases h0 : r.1 < 0
                · go_wp2
                  go_ret
                  exact ChkPost.no (by omega) (fun h => by have := (h.mask l HlR.out r Hrl.out).1; omega) ((Hch2.out.trans Hcw3.out).alloc _)
                · by_cases h1 : 1048575 < r.1
                  · go_wp2
                    go_ret
                    exact ChkPost.no (by omega) (fun h => by have := (h.mask l HlR.out r Hrl.out).2; omega) ((Hch2.out.trans Hcw3.out).alloc _)
                  · go_wp2_with fail
                    refine (cf2_any p _ _ r.2 R.length capv _ ⟨w.heap.size, 0, none⟩ ((((Chg.refl [] wr).alloc _).cell lgc3 (fun h => by cases h)).trans qc3) (Hints.out.kept ((Chg.refl [] wr).alloc _) (fun _ h => by cases h))).mono ?_
                    rintro e w6 ⟨rfl, rfl⟩
                    cases hb : r.2.any (badJ R.length)
                    · go_wp2
                      exact ⟨⟨k + 1, by omega, by go_num, mem_take_succ hlt2 _ Hn3.out (by rw [Hre.out]; exact ⟨⟨by omega, by omega⟩, any_badJ.1 hb⟩), Hcw3.out.alloc _⟩, by simp [intOf]; omega⟩
                    · go_wp2
                      go_ret
                      exact ChkPost.no (by omega) (fun h => by rw [any_badJ.2 (h.idx l HlR.out r Hrl.out)] at hb; exact absurd hb (by simp)) ((Hch2.out.trans Hcw3.out).alloc _)
              · obtain rfl : k = l.length := by omega
                have hrs : ∀ r ∈ l, RuOk R.length r := by have := Hn3.out; rw [List.take_length] at this; exact this
                have Hrs := Lib.hid hrs
                clear hrs hcw
                go_wp2
                exact ⟨⟨i + 1, by omega, by go_num, mem_take_succ hlt [] Hn2.out (by rw [Hle.out]; exact Hrs.out), Hcw2.out.trans Hcw3.out⟩, by simp [intOf]; omega⟩
          · obtain rfl : i = R.length := by omega
            have hrs : ∀ l ∈ R, ∀ r ∈ l, RuOk R.length r := by have := Hn2.out; rw [List.take_length] at this; exact this
            have hok := okr_of (by omega) Hsz.out hrs
            have Hok := Lib.hid hok
            clear hrs hok hcw
            go_wp2
            go_ret
            exact ⟨0, rfl, ⟨fun _ => Hok.out, fun _ => rfl⟩, Hch2.out⟩
end Go.Proofs.Ytaciceaipmclgaa
