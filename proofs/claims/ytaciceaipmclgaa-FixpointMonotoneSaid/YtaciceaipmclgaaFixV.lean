/- FixpointMonotone: the law's walk. -/
import Derived.Test.YtaciceaipmclgaaFixPa
import Derived.Test.YtaciceaipmclgaaFixU
import Derived.Test.YtaciceaipmclgaaFixJ
namespace Go.Proofs.Ytaciceaipmclgaa
open Go.RowKit
set_option linter.unusedVariables false
theorem modn_any (w : World) (x : Int) (n : Nat) (hn : 1 ≤ n) (hn2 : n ≤ 60) : Calls Try.prog 9 #[.int .i64 x, .int .i64 (n : Int)] w fun e w' => (∃ i : Nat, i < n ∧ e = .returned (.int .i64 (i : Int))) ∧ w = w' :=
  (mod_any x n w (by omega) (by omega)).mono fun e w' ⟨he, hw⟩ => ⟨⟨(modI x n).toNat, by have := modI_bd x n (by omega); omega, by
    rw [he]
    have := modI_bd x n (by omega)
    exact ret_int (by omega)⟩, hw⟩
theorem Nums.kept {p : Nat → Prop} {S : List Nat} {w w' : World} {v : Value} {xs : List Nat} (h : Nums p w v xs) (hc : Chg S w w') (hS : ∀ k ∈ S, ¬ p k) : Nums p w' v xs := SlF.kept h hc hS
set_option maxRecDepth 100000 in
set_option maxHeartbeats 4000000 in
theorem monotone_any (p : Nat → Prop) (w : World) (R : Rules) (v u : Value) (x : Int) (r : Rule) (hR : RulesAt p w v R) (hu : Ints p w u r.2) (hp : ∀ k, p k → k < w.heap.size) (hr : r.2.length ≤ 17592186044416) :
    Calls Try.prog 4 #[v, .int .i64 x, .agg #[.int .i64 r.1, u]] w fun e w' => e = .returned (.bool true) ∧ Chg [] w w' := by
  obtain ⟨av, capv, rfl⟩ : ∃ a cap, v = .slice a R.length cap := by obtain ⟨a, cap, h, _⟩ := hR; exact ⟨a, cap, h⟩
  obtain ⟨a3, cap3, rfl⟩ := SlF.shape hu
  have hlm : R.length ≤ maxLen := by obtain ⟨a, cap, h, _, h2, _⟩ := hR; exact h2
  unfold maxLen at hlm
  obtain ⟨i0, hi0, hz0, hz1, hz2⟩ := info_parts Try.infoRule
  have HR := Lib.hid hR
  have Hu := Lib.hid hu
  have Hi0 := Lib.hid hi0
  have Hp := Lib.hid hp
  clear hR hu hi0 hp
  go_enter Try.func4, Try.ntmps4
  go_wp2_with fail
  obtain ⟨wa, hwa⟩ : ∃ y, y = w.alloc (.cells #[.int .i64 r.1, .slice a3 r.2.length cap3] 31) := ⟨_, rfl⟩
  have s1 : wa.cell? ⟨w.heap.size, 0, none⟩ = some (.int .i64 r.1) := by rw [hwa]; exact cell_of_heap (heap_at _ _ _ rfl) rfl
  have s2 : wa.cell? ⟨w.heap.size, 1, none⟩ = some (.slice a3 r.2.length cap3) := by rw [hwa]; exact cell_of_heap (heap_at _ _ _ rfl) rfl
  have hca : Chg [] w wa := by rw [hwa]; exact (Chg.refl [] w).alloc _
  rw [← hwa]
  have lwa : w.heap.size < wa.heap.size := lt_of_cell s1
  have Hca := Lib.hid hca
  clear hwa hca
  refine (ruleExample_any _).mono ?_
  rintro e w1 ⟨rfl, c1⟩
  have s11 := (c1.cell (p := ⟨w.heap.size, 0, none⟩) lwa (by simp)).trans s1
  have s21 := (c1.cell (p := ⟨w.heap.size, 1, none⟩) lwa (by simp)).trans s2
  have Hc1 := Lib.hid (Hca.out.trans c1)
  clear s1 s2 c1 lwa
  have lw1 : w.heap.size < w1.heap.size := lt_of_cell s11
  go_wp2_with fail
  refine (newSolver_any p _ R _ (HR.out.kept Hc1.out (by simp)) (fun k hk => by have := Hp.out k hk; omega)).mono ?_
  rintro e w2 ⟨h | h, c2⟩
  · obtain ⟨hok, b, gs, S, rfl, hsol⟩ := h
    have Hok := Lib.hid hok
    have Hsol := Lib.hid hsol
    have Hc2 := Lib.hid c2
    have hn60 := hok.size
    have s12 := (c2.cell (p := ⟨w.heap.size, 0, none⟩) lw1 (by simp)).trans s11
    have s22 := (c2.cell (p := ⟨w.heap.size, 1, none⟩) lw1 (by simp)).trans s21
    have lw2 := lt_of_cell s12
    clear hok hsol c2 s11 s21
    by_cases h0 : R.length = 0
    · have hl0 : ((R.length : Int) == 0) = true := by rw [beq_iff_eq]; omega
      have hl0' : R = [] := List.length_eq_zero_iff.1 h0
      clear h0
      have H0 := Lib.hid hl0'
      clear hl0'
      go_wp2_with fail
      refine (ruleExample_any _).mono ?_
      rintro e w3 ⟨rfl, c3⟩
      go_wp2
      go_ret
      exact ⟨rfl, (Hc1.out.trans Hc2.out).trans c3⟩
    · have hl0 : ((R.length : Int) == 0) = false := by rw [beq_eq_false_iff_ne]; omega
      have hl0' : ¬ R = [] := fun e => h0 (by rw [e]; rfl)
      have hpos : 0 < R.length := by omega
      clear h0
      go_wp2_with fail
      refine (modn_any _ x R.length (by omega) hn60).mono ?_
      rintro e w3 ⟨⟨i, hi, rfl⟩, rfl⟩
      go_wp2_with fail
      refine (sets_any _ b gs R S _ Hsol.out).mono ?_
      rintro e w3 ⟨vb, rfl, hvb, c3⟩
      obtain ⟨ab, capb, rfl⟩ := SlF.shape hvb
      have s13 := (c3.cell (p := ⟨w.heap.size, 0, none⟩) lw2 (by simp)).trans s12
      have s23 := (c3.cell (p := ⟨w.heap.size, 1, none⟩) lw2 (by simp)).trans s22
      have lw3 := lt_of_cell s13
      have Hvb := Lib.hid hvb
      have Hsol3 := Lib.hid (Hsol.out.kept c3)
      have Hc3 := Lib.hid ((Hc1.out.trans Hc2.out).trans c3)
      clear hvb c3 s12 s22
      go_wp2_with fail
      refine (add_any _ b gs R S i r _ p _ Hsol3.out hi (SlF.kept Hu.out Hc3.out (by simp)) hr).mono ?_
      rintro e w4 ⟨h | h, c4⟩
      · obtain ⟨S', rfl, hsol, hss⟩ := h
        have Hsol4 := Lib.hid hsol
        have Hss := Lib.hid hss
        have hnb : ∀ g ∈ [b, gs], w1.heap.size ≤ g := by
          intro g hg
          simp only [List.mem_cons, List.not_mem_nil, or_false] at hg
          rcases hg with rfl | rfl
          · exact Hsol.out.hb
          · exact Hsol.out.hgs
        have Hvb4 := Lib.hid (Nums.kept Hvb.out c4 (fun g hg h => by
          simp only [List.mem_cons, List.not_mem_nil, or_false] at hg
          have := Hsol.out.row.lt
          obtain ⟨_, q0, _⟩ := Hsol.out.c0
          have lq0 : b < w2.heap.size := lt_of_cell q0
          rcases hg with rfl | rfl <;> omega))
        have Hnb := Lib.hid hnb
        have hs1 := Hc1.out.size
        have Hc4 := Lib.hid (Hc3.out.comp c4 (fun g hg => Or.inr (by have := Hnb.out g hg; omega)))
        clear hsol hss hnb c4 s13 s23
        go_wp2_with fail
        refine (sets_any _ b gs _ S' _ Hsol4.out).mono ?_
        rintro e w5 ⟨va, rfl, hva, c5⟩
        obtain ⟨aa, capa, rfl⟩ := SlF.shape hva
        have Hva := Lib.hid hva
        have hlS : S.length = R.length := Hsol.out.lst.len
        have hlS' : S'.length = R.length := by have := Hsol4.out.lst.len; rwa [addR_len] at this
        have Hvb5 := Lib.hid (Nums.kept Hvb4.out c5 (by simp))
        have Hsol5 := Lib.hid (Hsol4.out.kept c5)
        have Hc5 := Lib.hid (Hc4.out.trans c5)
        clear hva c5
        rw [hlS, hlS']
        have Hl := Lib.hid (And.intro hlS hlS')
        clear hlS hlS'
        go_wp2_with fail
        go_loopw [51] (fun jj wr => ∃ k : Nat, k ≤ R.length ∧ jj = .int .i64 (k : Nat) ∧ Chg [] w5 wr) (fun jj _ => R.length - (intOf jj).toNat)
        case atStart => exact ⟨0, by omega, rfl, Chg.refl _ _⟩
        case round =>
          obtain ⟨k, hk, rfl, hcw⟩ := hrel
          by_cases hlt : k < R.length
          · have qb : ∃ g off, ab = some ⟨g, off, none⟩ ∧ wr.cell? ⟨g, off + k, none⟩ = some (nv (S.getD k 0)) := by
              obtain ⟨_, _, hv, _, _, hc⟩ := Hvb5.out
              simp only [Value.slice.injEq] at hv
              obtain ⟨rfl, _, _⟩ := hv
              obtain ⟨g, off, rfl, _, hcc⟩ := hc (by rw [Hl.out.1]; omega)
              have hq := hcc k (by rw [Hl.out.1]; exact hlt)
              exact ⟨g, off, rfl, (hcw.cell (p := ⟨g, off + k, none⟩) (lt_of_cell hq) (by simp)).trans hq⟩
            have qa : ∃ g off, aa = some ⟨g, off, none⟩ ∧ wr.cell? ⟨g, off + k, none⟩ = some (nv (S'.getD k 0)) := by
              obtain ⟨_, _, hv, _, _, hc⟩ := Hva.out
              simp only [Value.slice.injEq] at hv
              obtain ⟨rfl, _, _⟩ := hv
              obtain ⟨g, off, rfl, _, hcc⟩ := hc (by rw [Hl.out.2]; omega)
              have hq := hcc k (by rw [Hl.out.2]; exact hlt)
              exact ⟨g, off, rfl, (hcw.cell (p := ⟨g, off + k, none⟩) (lt_of_cell hq) (by simp)).trans hq⟩
            obtain ⟨g1, off1, rfl, q1⟩ := qb
            obtain ⟨g2, off2, rfl, q2⟩ := qa
            have hb1 : S.getD k 0 ≤ 1048575 := getD_univ Hsol.out.lst.bd k
            have hb2 : S'.getD k 0 ≤ 1048575 := getD_univ Hsol5.out.lst.bd k
            have hz := (andN_zero (a := S.getD k 0) (b := S'.getD k 0) (by omega) (by omega)).2 (Hss.out k)
            generalize S.getD k 0 = sx at q1 hb1 hz
            generalize S'.getD k 0 = cx at q2 hb2 hz
            unfold nv at q1 q2
            have han : bits .andNot .i64 (sx : Int) (cx : Int) = 0 := by rw [i64_andNot_nat _ _ (by omega) (by omega), hz]; rfl
            clear hz
            have hk1 : (k : Int) < R.length := by omega
            have hk0 : (0 : Int) ≤ k := by omega
            have lg1 := lt_of_cell q1
            have lg2 := lt_of_cell q2
            have Hcw2 := Lib.hid hcw
            clear hcw
            go_wp2_with fail
            go_region
            all_goals
              go_wp2
              exact ⟨⟨k + 1, by omega, by go_num, Hcw2.out.drew⟩, by simp [intOf]; omega⟩
          · obtain rfl : k = R.length := by omega
            have Hcw2 := Lib.hid hcw
            clear hcw
            go_wp2_with fail
            refine (ruleExample_any _).mono ?_
            rintro e w6 ⟨rfl, c6⟩
            have Hc6 := Lib.hid ((Hc5.out.trans Hcw2.out).trans c6)
            have Hsol6 := Lib.hid (Hsol5.out.kept (Hcw2.out.trans c6))
            have Hvb6 := Lib.hid (Nums.kept Hvb5.out (Hcw2.out.trans c6) (by simp))
            obtain ⟨gR, offR, uR, rfl, qi, hl⟩ := (HR.out.kept Hc6.out (by simp)).at i hi
            obtain ⟨au, capu, rfl, _⟩ := hl.shape
            have Hl2 := Lib.hid hl
            have hrem := remove_any _ b gs R _ S S' i r _ rfl Hsol6.out hi Hok.out Hsol.out.lst
            obtain ⟨m, hm⟩ : ∃ m, (R.getD i []).length = m := ⟨_, rfl⟩
            rw [hm] at qi hrem
            have Hrem := Lib.hid hrem
            clear hm hrem
            have lgR := lt_of_cell qi
            have hi0 : (0 : Int) ≤ (i : Int) := by omega
            have hi1 : (i : Int) < R.length := by omega
            clear c6 hl
            go_wp2_with fail
            with_reducible refine (Hrem.out).mono ?_
            rintro e w7 ⟨rfl, hsol, c7⟩
            have Hsol7 := Lib.hid hsol
            have lq0 : b < w2.heap.size := by obtain ⟨_, q0, _⟩ := Hsol.out.c0; exact lt_of_cell q0
            have lqg := Hsol.out.row.lt
            have Hvb7 := Lib.hid (Nums.kept Hvb6.out c7 (fun g hg h => by
              simp only [List.mem_cons, List.not_mem_nil, or_false] at hg
              rcases hg with rfl | rfl <;> omega))
            have Hc7 := Lib.hid (Hc6.out.comp c7 (fun g hg => Or.inr (by have := Hnb.out g hg; omega)))
            clear hsol c7
            go_wp2_with fail
            refine (sets_any _ b gs _ S _ Hsol7.out).mono ?_
            rintro e w8 ⟨vc, rfl, hvc, c8⟩
            have Hvc := Lib.hid hvc
            have Hvb8 := Lib.hid (Nums.kept Hvb7.out c8 (by simp))
            have Hc8 := Lib.hid (Hc7.out.trans c8)
            clear hvc c8
            go_wp2_with fail
            refine (equal_any _ _ _ _ _ S S Hvc.out (by have := Hvb8.out; rw [Hl.out.1] at this; exact this)).mono ?_
            rintro e w9 ⟨rfl, rfl⟩
            have hdd : decide (S = S) = true := by simp
            go_wp2_with fail
            go_ret
            exact ⟨rfl, Hc8.out⟩
      · obtain ⟨c, hc, rfl, hsol⟩ := h
        have hcb : (c != 0) = true := by rw [bne_iff_ne]; exact hc
        have Hsol4 := Lib.hid hsol
        have Hc := Lib.hid hc
        have lq0 : b < w2.heap.size := by obtain ⟨_, q0, _⟩ := Hsol.out.c0; exact lt_of_cell q0
        have lqg := Hsol.out.row.lt
        have hs1 := Hc1.out.size
        have hnb : ∀ g ∈ [b, gs], w1.heap.size ≤ g := by
          intro g hg
          simp only [List.mem_cons, List.not_mem_nil, or_false] at hg
          rcases hg with rfl | rfl
          · exact Hsol.out.hb
          · exact Hsol.out.hgs
        have Hvb4 := Lib.hid (Nums.kept Hvb.out c4 (fun g hg h => by
          simp only [List.mem_cons, List.not_mem_nil, or_false] at hg
          rcases hg with rfl | rfl <;> omega))
        have Hc4 := Lib.hid (Hc3.out.comp c4 (fun g hg => Or.inr (by have := hnb g hg; omega)))
        clear hsol hc c4 hnb
        go_wp2_with fail
        refine (ruleExample_any _).mono ?_
        rintro e w5 ⟨rfl, c5⟩
        have Hc5 := Lib.hid (Hc4.out.trans c5)
        have Hsol5 := Lib.hid (Hsol4.out.kept c5)
        have Hvb5 := Lib.hid (Nums.kept Hvb4.out c5 (by simp))
        clear c5
        go_wp2_with fail
        refine (sets_any _ b gs _ S _ Hsol5.out).mono ?_
        rintro e w8 ⟨vc, rfl, hvc, c8⟩
        have Hvc := Lib.hid hvc
        have Hvb8 := Lib.hid (Nums.kept Hvb5.out c8 (by simp))
        have Hc8 := Lib.hid (Hc5.out.trans c8)
        clear hvc c8
        go_wp2_with fail
        refine (equal_any _ _ _ _ _ S S Hvc.out Hvb8.out).mono ?_
        rintro e w9 ⟨rfl, rfl⟩
        go_wp2_with fail
        go_ret
        exact ⟨rfl, Hc8.out⟩
  · obtain ⟨hno, c, hc, rfl⟩ := h
    have hcb : (c != 0) = true := by rw [bne_iff_ne]; exact hc
    have Hno := Lib.hid hno
    have Hc := Lib.hid hc
    clear hno hc
    go_wp2_with fail
    refine (ruleExample_any _).mono ?_
    rintro e w3 ⟨rfl, c3⟩
    go_wp2
    go_ret
    exact ⟨rfl, (Hc1.out.trans c2).trans c3⟩
end Go.Proofs.Ytaciceaipmclgaa
