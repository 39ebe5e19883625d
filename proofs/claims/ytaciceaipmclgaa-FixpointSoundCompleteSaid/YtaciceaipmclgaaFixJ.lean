/- FixpointKnasterTarski: the law's walk. -/
import Derived.Test.YtaciceaipmclgaaFixI
import Derived.Test.YtaciceaipmclgaaMod
namespace Go.Proofs.Ytaciceaipmclgaa
open Go.RowKit
set_option linter.unusedVariables false
/-- what the law takes for a candidate -/
def cand (os : List Int) (j : Nat) : Nat := if j < os.length then (os.getD j 0 % 1048576).toNat else 1048575
theorem cand_le (os : List Int) (j : Nat) : cand os j ≤ univ := by
  unfold cand univ
  split
  · have := Int.emod_lt_of_pos (os.getD j 0) (show (0 : Int) < 1048576 by decide)
    have := Int.emod_nonneg (os.getD j 0) (show (1048576 : Int) ≠ 0 by decide)
    omega
  · omega
theorem mod20_any (w : World) (x : Int) : Calls Try.prog 9 #[.int .i64 x, .int .i64 1048576] w fun e w' => e = .returned (nv (x % 1048576).toNat) ∧ w = w' :=
  (mod_any x 1048576 w (by decide) (by decide)).mono fun e w' ⟨he, hw⟩ => ⟨by
    rw [he, modI_eq x _ (by decide)]
    unfold nv
    have := Int.emod_nonneg x (show (1048576 : Int) ≠ 0 by decide)
    rw [Int.toNat_of_nonneg this], hw⟩
theorem range_map_getD {α : Type} (n : Nat) (f : Nat → α) (d : α) (j : Nat) (hj : j < n) : ((List.range n).map f).getD j d = f j := by simp [hj]
theorem nums_row {w' : World} {g n : Nat} {f : List Nat} (hn : n ≤ 60) (hf : f.length = n) (h : w'.rowIs g 3 n (fun j => nv (f.getD j 0))) : Nums (fun _ => True) w' (.slice (some ⟨g, 0, none⟩) n n) f := by
  subst hf
  exact ⟨_, _, rfl, Nat.le_refl _, by unfold maxLen; omega, fun _ => ⟨g, 0, rfl, trivial, fun j hj => by rw [Nat.zero_add]; exact h.cell hj⟩⟩
theorem RulesAt.imp {p q : Nat → Prop} {w : World} {v : Value} {R : Rules} (h : RulesAt p w v R) (hpq : ∀ g, p g → q g) : RulesAt q w v R := by
  obtain ⟨a, cap, rfl, h1, h2, h3⟩ := h
  refine ⟨a, cap, rfl, h1, h2, fun h0 => ?_⟩
  obtain ⟨g, off, rfl, hp, hc⟩ := h3 h0
  refine ⟨g, off, rfl, hpq g hp, fun j hj => ?_⟩
  obtain ⟨u, e1, e2⟩ := hc j hj
  exact ⟨u, e1, e2.imp hpq⟩
set_option maxRecDepth 100000 in
set_option maxHeartbeats 2000000 in
theorem knaster_any (p : Nat → Prop) (w : World) (R : Rules) (v vo : Value) (os : List Int) (hR : RulesAt p w v R) (ho : Ints p w vo os) (hp : ∀ k, p k → k < w.heap.size) :
    Calls Try.prog 3 #[v, vo] w fun e w' => e = .returned (.bool true) ∧ Chg [] w w' := by
  obtain ⟨av, capv, rfl⟩ : ∃ a cap, v = .slice a R.length cap := by obtain ⟨a, cap, h, _⟩ := hR; exact ⟨a, cap, h⟩
  have hlm : R.length ≤ maxLen := by obtain ⟨a, cap, h, _, h2, _⟩ := hR; exact h2
  obtain ⟨ao, capo, rfl, ho1, ho2, hoc⟩ := ho
  unfold maxLen at hlm ho2
  have HR := Lib.hid hR
  have Hoc := Lib.hid hoc
  clear hR hoc
  go_enter Try.func3, Try.ntmps3
  go_wp2_with fail
  refine (ruleExample_any _).mono ?_
  rintro e w1 ⟨rfl, c1⟩
  go_wp2_with fail
  refine (least_any _ _ R _ (HR.out.kept c1 (by simp)) (fun k hk => by have := hp k hk; have := c1.size; omega)).mono ?_
  rintro e w2 ⟨h | h, c2⟩
  · obtain ⟨hok, vs, S, rfl, hl, hs⟩ := h
    have hn60 := hok.size
    obtain ⟨gs, rfl, hgs, hrow⟩ := hs
    have hlen := hl.len
    have hsolb : solB R S = true := (solB_iff hok hl.bd).2 hl.sol
    have Hl := Lib.hid hl
    have Hok := Lib.hid hok
    have Hsol := Lib.hid hsolb
    rw [hlen] at hrow
    rw [hlen]
    have Hrow := Lib.hid hrow
    have Hlen := Lib.hid hlen
    have hnn : ((R.length : Int) != (R.length : Int)) = false := by simp
    clear hl hok hsolb hrow hlen
    go_wp2_with fail
    refine (isSolution_any (fun _ => True) _ R _ _ S ((HR.out.kept (c1.trans c2) (by simp)).imp fun _ _ => trivial) (nums_row hn60 Hlen.out Hrow.out) Hok.out Hlen.out Hl.out.bd).mono ?_
    rintro e w3 ⟨rfl, c3⟩
    rw [Hsol.out]
    have hmk := run_make_row' (P := Try.prog) 23 3 (.int .i64 0) 8 Try.underlying23 Try.infoInt rfl .i64 .i64 R.length (by omega) (by omega)
    have hmk' := hmk w3
    clear hmk
    have hrow3 := World.rowIs_made w3 (.int .i64 0) R.length 3
    have Hrow3 := Lib.hid hrow3
    have Hc3 := Lib.hid ((c1.trans c2).trans c3)
    have hgs3 : gs < w3.heap.size := by have := Hrow.out.lt; have := c3.size; omega
    have Hrows3 := Lib.hid (Hrow.out.of_block (c3.block gs Hrow.out.lt (by simp)))
    clear hrow3
    go_wp2_with fail
    go_loopw [41] (fun jj wr => ∃ k : Nat, k ≤ R.length ∧ jj = .int .i64 (k : Nat) ∧ wr.rowIs w3.heap.size 3 R.length (fun j => nv (if j < k then cand os j else 0)) ∧ Chg [] w3 wr) (fun jj _ => R.length - (intOf jj).toNat)
    case atStart => exact ⟨0, by omega, rfl, Hrow3.out.congr (fun i hi => by simp [nv]), (Chg.refl _ _).alloc _⟩
    case round =>
      obtain ⟨k, hk, rfl, hr, hcw⟩ := hrel
      have Hr := Lib.hid hr
      have Hcw := Lib.hid hcw
      clear hr hcw hmk'
      by_cases hlt : k < R.length
      · have q0 := Hr.out.cell hlt
        have f0 := Hr.out.frozen k
        have lgk : w3.heap.size < wr.heap.size := Hr.out.lt
        have hk1 : (k : Int) < R.length := by omega
        rw [if_neg (by omega)] at q0
        unfold nv at q0
        by_cases hlo : k < os.length
        · obtain ⟨go, oo, rfl, hpo, hco⟩ := Hoc.out (by omega)
          have q1w : w.cell? ⟨go, oo + k, none⟩ = some (.int .i64 (os.getD k 0)) := hco k hlo
          have q1 := (((Hc3.out.trans Hcw.out)).cell (p := ⟨go, oo + k, none⟩) (lt_of_cell q1w) (by simp)).trans q1w
          have hgo : go ≠ w3.heap.size := by
            have := lt_of_cell q1w
            have := Hc3.out.size
            simp only at *
            omega
          clear hco q1w
          have hlo1 : (k : Int) < os.length := by omega
          have hcd : cand os k = (os.getD k 0 % 1048576).toNat := by unfold cand; rw [if_pos hlo]
          obtain ⟨x, hx⟩ : ∃ x, os.getD k 0 = x := ⟨_, rfl⟩
          rw [hx] at q1 hcd
          have Hcd := Lib.hid hcd
          clear hcd hx
          have lgo := lt_of_cell q1
          go_wp2_with fail
          refine (mod20_any _ x).mono ?_
          rintro e w4 ⟨rfl, rfl⟩
          obtain ⟨m, hm⟩ : ∃ m, (x % 1048576).toNat = m := ⟨_, rfl⟩
          rw [hm]
          rw [hm] at Hcd
          unfold nv
          clear hm
          go_wp2
          exact ⟨⟨k + 1, by omega, by go_num, ((Hr.out.set k (.int .i64 1048575)).set k (nv m)).congr fun i hi => by
            by_cases e : i = k
            · subst e; simp [Hcd.out]
            · have : (i < k + 1) = (i < k) := by simp; omega
              simp [e, this], (Hcw.out.setCell (Or.inr (Nat.le_refl _)) _).setCell (Or.inr (Nat.le_refl _)) _⟩, by simp [intOf]; omega⟩
        · have hlo1 : ¬ (k : Int) < os.length := by omega
          have hcd : cand os k = 1048575 := by unfold cand; rw [if_neg hlo]
          have Hcd := Lib.hid hcd
          clear hcd
          go_wp2
          exact ⟨⟨k + 1, by omega, by go_num, (Hr.out.set k (.int .i64 1048575)).congr fun i hi => by
            by_cases e : i = k
            · subst e; simp [Hcd.out, nv]
            · have : (i < k + 1) = (i < k) := by simp; omega
              simp [e, this], Hcw.out.setCell (Or.inr (Nat.le_refl _)) _⟩, by simp [intOf]; omega⟩
      · obtain rfl : k = R.length := by omega
        obtain ⟨C, hC⟩ : ∃ C, C = (List.range R.length).map (cand os) := ⟨_, rfl⟩
        have hCl : C.length = R.length := by simp [hC]
        have hCb : ∀ x ∈ C, x ≤ univ := by
          intro x hx
          rw [hC, List.mem_map] at hx
          obtain ⟨j, _, rfl⟩ := hx
          exact cand_le os j
        have hrC : wr.rowIs w3.heap.size 3 R.length (fun j => nv (C.getD j 0)) := Hr.out.congr fun i hi => by rw [hC, range_map_getD _ _ _ _ hi, if_pos hi]
        have HC := Lib.hid (And.intro hCl hCb)
        have HrC := Lib.hid hrC
        clear hC hCl hCb hrC
        go_wp2_with fail
        refine (isSolution_any (fun _ => True) _ R _ _ C ((HR.out.kept (Hc3.out.trans Hcw.out) (by simp)).imp fun _ _ => trivial) (nums_row hn60 HC.out.1 HrC.out) Hok.out HC.out.1 HC.out.2).mono ?_
        rintro e w5 ⟨rfl, c5⟩
        have Hall := Lib.hid ((Hc3.out.trans Hcw.out).trans c5)
        have Hrs5 := Lib.hid ((Hrows3.out.of_block (Hcw.out.block gs hgs3 (by simp))).of_block (c5.block gs (by have := Hcw.out.size; omega) (by simp)))
        have HrC5 := Lib.hid (HrC.out.of_block (c5.block _ HrC.out.lt (by simp)))
        cases hsb : solB R C
        · go_wp2_with fail
          refine (ruleExample_any _).mono ?_
          rintro e w6 ⟨rfl, c6⟩
          go_wp2
          go_ret
          exact ⟨rfl, Hall.out.trans c6⟩
        · have hsub : subs S C := Hl.out.least C ((solB_iff Hok.out HC.out.2).1 hsb)
          have Hsub := Lib.hid hsub
          clear hsub hsb
          go_wp2_with fail
          go_loopw [65] (fun jj wr => ∃ k : Nat, k ≤ R.length ∧ jj = .int .i64 (k : Nat) ∧ Chg [] w5 wr) (fun jj _ => R.length - (intOf jj).toNat)
          case atStart => exact ⟨0, by omega, rfl, Chg.refl _ _⟩
          case round =>
            obtain ⟨k, hk, rfl, hcw⟩ := hrel
            by_cases hlt : k < R.length
            · have q0 := (Hrs5.out.of_block (hcw.block gs Hrs5.out.lt (by simp))).cell hlt
              have q1 := (HrC5.out.of_block (hcw.block _ HrC5.out.lt (by simp))).cell hlt
              have hb1 : S.getD k 0 ≤ 1048575 := Hl.out.bd _ (getD_mem (by rw [Hlen.out]; exact hlt) 0)
              have hb2 : C.getD k 0 ≤ 1048575 := HC.out.2 _ (getD_mem (by rw [HC.out.1]; exact hlt) 0)
              have hz := (andN_zero (a := S.getD k 0) (b := C.getD k 0) (by omega) (by omega)).2 (Hsub.out k)
              generalize S.getD k 0 = sx at q0 hb1 hz
              generalize C.getD k 0 = cx at q1 hb2 hz
              unfold nv at q0 q1
              have han : bits .andNot .i64 (sx : Int) (cx : Int) = 0 := by rw [i64_andNot_nat _ _ (by omega) (by omega), hz]; rfl
              clear hz
              have hk1 : (k : Int) < R.length := by omega
              have hk0 : (0 : Int) ≤ k := by omega
              have lg0 := lt_of_cell q0
              have lg1 := lt_of_cell q1
              have Hcw2 := Lib.hid hcw
              clear hcw
              go_wp2_with fail
              go_region
              all_goals
                go_wp2
                exact ⟨⟨k + 1, by omega, by go_num, Hcw2.out.drew⟩, by simp [intOf]; omega⟩
            · obtain rfl : k = R.length := by omega
              go_wp2_with fail
              refine (ruleExample_any _).mono ?_
              rintro e w6 ⟨rfl, c6⟩
              go_wp2
              go_ret
              exact ⟨rfl, (Hall.out.trans hcw).trans c6⟩
  · obtain ⟨hok, c, hc0, rfl⟩ := h
    have hb : (c == 0) = false := beq_eq_false_iff_ne.2 hc0
    have hb2 : (c != 0) = true := by rw [bne_iff_ne]; exact hc0
    go_wp2_with fail
    refine (ruleExample_any _).mono ?_
    rintro e w3 ⟨rfl, c3⟩
    go_wp2
    go_ret
    exact ⟨rfl, (c1.trans c2).trans c3⟩
end Go.Proofs.Ytaciceaipmclgaa
