/- SnapshotReuse: the law's walk. -/
import Derived.Test.YtggiddhhbilcjaaSnV
namespace Go.Proofs.Ytggiddhhbilcjaa.Sn
open Go.RowKit Go.ChangeMaps Go.MapKept Go.MuLone
set_option linter.unusedVariables false
set_option linter.unusedSimpArgs false
set_option maxRecDepth 100000 in
set_option maxHeartbeats 16000000 in
theorem reuseLaw_any (p0 : Nat → Prop) (w : World) (inp : Int) (qs : List (List QO)) (ss : List I3) (q av' bv' : Int) (qv sv : Value) (hq : I3ss p0 w qv qs) (hs : I3s p0 w sv ss) (hp0 : ∀ k, p0 k → k < w.heap.size) :
    Calls Try.prog 4 #[.agg #[.int .i64 inp, qv], sv, .int .i64 q, .int .i64 av', .int .i64 bv'] w fun e w' => e = .returned (.bool true) ∧ Chg [] w w' := by
  obtain ⟨av, capv, rfl, hlm, hlc⟩ := hq.shape
  have Hq := Lib.hid hq
  have Hs := Lib.hid hs
  have Hp0 := Lib.hid hp0
  have hc0 : Chg [] w (w.alloc (.cells #[.int .i64 inp, .slice av qs.length capv] 24)) := (Chg.refl [] w).alloc _
  have Hc0 := Lib.hid hc0
  clear hq hs hp0 hc0
  unfold maxLen at hlm
  go_enter Try.func4, Try.ntmps4
  go_wp2_with fail
  refine (memoExample_any _).mono ?_
  rintro e w1 ⟨rfl, c1⟩
  have m0 : w1.cell? ⟨w.heap.size, 0, none⟩ = some (.int .i64 inp) := (c1.cell (p := ⟨w.heap.size, 0, none⟩) (by simp) (by simp)).trans (cell_of_heap (heap_at _ _ _ rfl) rfl)
  have m1 : w1.cell? ⟨w.heap.size, 1, none⟩ = some (.slice av qs.length capv) := (c1.cell (p := ⟨w.heap.size, 1, none⟩) (by simp) (by simp)).trans (cell_of_heap (heap_at _ _ _ rfl) rfl)
  have lm := lt_of_cell m0
  have Hc1 := Lib.hid (Hc0.out.trans c1)
  clear c1
  go_wp2_with fail
  refine (usable_any (fun g => g < w1.heap.size) _ inp qs _ (Hq.out.old Hp0.out Hc1.out)).mono ?_
  rintro e w2 ⟨b, rfl, hb, c2⟩
  have n0 := (c2.cell (p := ⟨w.heap.size, 0, none⟩) lm (by simp)).trans m0
  have n1 := (c2.cell (p := ⟨w.heap.size, 1, none⟩) lm (by simp)).trans m1
  have ln := lt_of_cell n0
  have Hc2 := Lib.hid (Hc1.out.trans c2)
  clear c2 m0 m1 lm
  cases b with
  | false =>
    clear hb
    go_wp2_with fail
    refine (memoExample_any _).mono ?_
    rintro e w3 ⟨rfl, c3⟩
    go_wp2
    go_ret
    exact ⟨rfl, Hc2.out.trans c3⟩
  | true =>
    obtain ⟨hok, hl0, hi0⟩ := hb.1 rfl
    clear hb
    obtain ⟨N, rfl⟩ := Int.eq_ofNat_of_zero_le hok.inp.1
    have hN := hok.inp.2
    have hL := hok.size
    simp only at hN hL
    have Hok := Lib.hid hok
    have Hh := Lib.hid (history_any hok w2 hl0 (by omega) _ _ ss (Hq.out.old Hp0.out Hc2.out) (I3s.imp (I3s.kept (S := fun _ => False) Hs.out Hc2.out.p (fun _ _ h => h)) fun g hg => Nat.lt_of_lt_of_le (Hp0.out g hg) Hc2.out.size))
    obtain ⟨qn, hqn, hmq⟩ := modN q qs.length (by omega) (by omega)
    have Hmq := Lib.hid hmq
    clear hok hmq
    go_wp2_with fail
    refine Hh.out.mono ?_
    rintro e w3 ⟨d, v, rows, B, rfl, hlaw, hrel, hrl, hold, hst, hlen⟩
    obtain ⟨gs, cs, u0, hv, h1, h2, cu0, hrow0⟩ := hst.at_ (j := 0) (by omega)
    subst hv
    obtain ⟨rn, hrn⟩ : ∃ n, n = rows.length := ⟨_, rfl⟩
    rw [← hrn] at hst h1 ⊢
    have hr16 : 1 ≤ rn ∧ rn ≤ 16 := by omega
    have hrs : rn ≤ ss.length + 1 := by omega
    have hlat : d.lat + 1 = rn := by rw [hrn]; exact hrel.lat
    obtain ⟨an, han, hma⟩ := modN av' rn (by omega) (by omega)
    obtain ⟨bn, hbn, hmb⟩ := modN bv' rn (by omega) (by omega)
    have Hma := Lib.hid hma
    have Hmb := Lib.hid hmb
    have m0' := n0
    have m1' := n1
    have n0 := (hlaw.chg.cell ln (by simp)).trans n0
    have n1 := (hlaw.chg.cell ln (by simp)).trans n1
    have HL := Lib.hid hlaw
    have HN := Lib.hid (And.intro ln (And.intro m0' m1'))
    have HR := Lib.hid (And.intro hrel (And.intro hrl hold))
    have HSt := Lib.hid hst
    unfold maxLen at h2
    have Hrn := Lib.hid (And.intro hrn hlat)
    clear hlaw hrel hrl hold hst hlen hrow0 cu0 hma hmb ln Hh hrn hlat m0' m1'
    have hrel := HR.out.1
    have hlat := Hrn.out.2
    have hdo : d.old = 0 := HR.out.2.2
    obtain ⟨lo, hlo⟩ : ∃ n : Nat, min (an : Int) bn = n := ⟨min an bn, by omega⟩
    obtain ⟨hi, hhi⟩ : ∃ n : Nat, max (an : Int) bn = n := ⟨max an bn, by omega⟩
    have hlh : lo ≤ hi := by omega
    have hhr : hi < rn := by omega
    have Hlh := Lib.hid (And.intro (show lo = min an bn by omega) (show hi = max an bn by omega))
    have hsh := Hs.out.shape
    obtain ⟨sa, sc, rfl, hml, hmc⟩ := hsh
    unfold maxLen at hml
    have hNl : 0 < N := by omega
    have hlr : (lo : Int) < rn := by omega
    go_wp2_with (first | (go_at_call 9; (first | with_reducible refine (Hmq.out _).mono ?_ | with_reducible refine (Hma.out _).mono ?_ | with_reducible refine (Hmb.out _).mono ?_); rintro e w' ⟨rfl, rfl⟩))
    clear Hmq Hma Hmb
    go_loopw [62] (fun jj wr => ∃ i : Nat, i ≤ N ∧ jj = .int .i64 (i : Nat) ∧ Hid (Chg [] w3 wr) ∧ Hid (∀ j : Nat, lo ≤ j → j < hi → tgt ss N j < i → ¬ TR ⟨(N : Int), qs⟩ (rows.getD lo []) qn (0, (tgt ss N j : Int), 0))) (fun jj _ => N - (intOf jj).toNat)
    case atStart => exact ⟨0, by omega, rfl, Lib.hid (Chg.refl _ _), Lib.hid fun j _ _ h => by omega⟩
    case round =>
      obtain ⟨i, hiN, rfl, Hcw, Hni⟩ := hrel
      by_cases hlt : i < N
      · have hi1 : (i : Int) < N := by omega
        go_wp2_with fail
        go_loopw [16] (fun jj wr => ∃ r : Nat, lo ≤ r ∧ r ≤ hi ∧ jj = .int .i64 (r : Nat) ∧ Hid (Chg [] w3 wr) ∧ Hid (∀ j : Nat, lo ≤ j → j < r → tgt ss N j = i → ¬ TR ⟨(N : Int), qs⟩ (rows.getD lo []) qn (0, (i : Int), 0))) (fun jj _ => hi - (intOf jj).toNat)
        case atStart => exact ⟨lo, Nat.le_refl _, hlh, rfl, Hcw, Lib.hid fun j _ _ _ => by omega⟩
        case round =>
          obtain ⟨r, hr1, hr2, rfl, Hcr, Hnr⟩ := hrel
          by_cases hltr : r < hi
          · have hr3 : (r : Int) < hi := by omega
            have Hsr := Lib.hid (I3s.kept Hs.out (((Hc2.out.trans HL.out.chg).trans Hcr.out).p (S := fun _ => False)) (fun _ _ h => h))
            obtain ⟨g, off, rfl, hgp, r0, r1, r2⟩ := SlR.at Hsr.out r (by omega) (0, 0, 0)
            have htg : modI (ss.getD r (0, 0, 0)).2.1 (N : Int) = (tgt ss N r : Nat) := by
              have := (modI_bd (ss.getD r (0, 0, 0)).2.1 (N : Int) (by omega)).1
              unfold tgt; omega
            obtain ⟨xd, hxd⟩ : ∃ x, x = (ss.getD r (0, 0, 0)).1 := ⟨_, rfl⟩
            obtain ⟨xa, hxa⟩ : ∃ x, x = (ss.getD r (0, 0, 0)).2.1 := ⟨_, rfl⟩
            obtain ⟨xb, hxb⟩ : ∃ x, x = (ss.getD r (0, 0, 0)).2.2 := ⟨_, rfl⟩
            rw [← hxd] at r0
            rw [← hxa] at r1 htg
            rw [← hxb] at r2
            obtain ⟨tn, htn⟩ : ∃ n, n = tgt ss N r := ⟨_, rfl⟩
            rw [← htn] at htg
            have hrl : (r : Int) < ss.length := by omega
            obtain ⟨w5, hw5⟩ : ∃ x, x = wr.alloc (.cells #[.int .i64 xd, .int .i64 xa, .int .i64 xb] 46) := ⟨_, rfl⟩
            have c5 : Chg [] wr w5 := by rw [hw5]; exact (Chg.refl [] wr).alloc _
            have hs5 : w5.heap[wr.heap.size]? = some (.cells #[.int .i64 xd, .int .i64 xa, .int .i64 xb] 46 (0, 0)) := by rw [hw5]; exact heap_at _ _ _ rfl
            have Hc5 := Lib.hid (Hcr.out.trans c5)
            have Hs5 := Lib.hid hs5
            have Hmod := Lib.hid (fun w => (mod_any xa N w (by omega) (by omega)).mono (R' := fun e w' => e = .returned (.int .i64 (tn : Int)) ∧ w' = w) fun e w' ⟨h1, h2⟩ => ⟨by rw [h1, htg], h2.symm⟩)
            have Htn := Lib.hid htn
            clear c5 hs5 hgp hxd hxa hxb htg htn
            go_upto_region 17 with fail
            rw [← hw5]
            clear hw5 r0 r1 r2
            refine wp_region_readsQ 15 (by kernel_rfl) (by kernel_rfl) ?_
            intro wd hwd
            simp only [List.take_succ_cons, List.take_zero, List.drop_succ_cons, List.drop_zero]
            have hcd : Chg [] w5 wd := by rw [hwd]; exact (Chg.refl _ _).drew
            have hstd := HSt.out.new (Hc5.out.trans hcd)
            obtain ⟨g', cap', u, he, _, _, cu, hrow⟩ := hstd.at_ (j := lo) (by rw [← Hrn.out.1]; omega)
            simp only [Value.slice.injEq, Option.some.injEq, Addr.mk.injEq, and_true] at he
            obtain ⟨rfl, hz, rfl⟩ := he
            clear hz
            have hRe : rows[lo]'(by rw [← Hrn.out.1]; omega) = rows.getD lo [] := by rw [List.getD_eq_getElem?_getD, List.getElem?_eq_getElem (show lo < rows.length by rw [← Hrn.out.1]; omega), Option.getD_some]
            have hRl : (rows.getD lo []).length = N := by rw [← hRe]; exact rows_len (p := ⟨(N : Int), qs⟩) rfl HR.out.1 _
            rw [hRe] at hrow
            have s1 : wd.cell? ⟨wr.heap.size, 1, none⟩ = some (.int .i64 xa) := cell_of_heap ((hcd.block _ (lt_of_obj Hs5.out) (by simp)).trans Hs5.out) rfl
            have n0 := (((HL.out.chg.trans Hc5.out).trans hcd).cell HN.out.1 (by simp)).trans HN.out.2.1
            have n1 := (((HL.out.chg.trans Hc5.out).trans hcd).cell HN.out.1 (by simp)).trans HN.out.2.2
            have Hcd := Lib.hid (Hc5.out.trans hcd)
            have Hrow := Lib.hid hrow
            have HRl := Lib.hid hRl
            clear hwd hcd hstd hrow hRe hRl
            by_cases hti : tn = i
            · subst hti
              iterate 4 go_big_quiet_step (fail)
              go_big_quiet_want
              go_big_quiet_op
              refine ⟨_, Hmod.out _, ?_⟩
              go_big_quiet_on
              repeat go_big_quiet_step (fail)
              refine wpQuiet_nil ?_
              go_wp2_with fail
              refine (influences_any (fun g => g < wd.heap.size) wd ⟨(N : Int), qs⟩ (rows.getD lo []) qn tn _ _ (Hq.out.old Hp0.out ((Hc2.out.trans HL.out.chg).trans Hcd.out)) (IntsP.imp (intsP_of_row Hrow.out) fun g hg => hg.2) (fun k hk => hk) ⟨Hok.out, by rw [HRl.out], by omega, by simp only; omega⟩ (by omega)).mono ?_
              rintro e w6 ⟨bi, rfl, hbi, c6⟩
              have Hc6 := Lib.hid (Hcd.out.trans c6)
              clear c6 s1 n0 n1 cu
              cases bi with
              | true =>
                clear hbi
                go_wp2_with fail
                refine (memoExample_any _).mono ?_
                rintro e w7 ⟨rfl, c7⟩
                go_wp2_with fail
                go_ret
                exact ⟨rfl, (Hc2.out.trans HL.out.chg).trans (Hc6.out.trans c7)⟩
              | false =>
                obtain ⟨P, hP1, hP2⟩ := hbi rfl
                have Hnt := Lib.hid (show ¬ TR ⟨(N : Int), qs⟩ (rows.getD lo []) qn (0, (tn : Int), 0) from fun ht => not_tr Hok.out hP2 ht hP1 rfl)
                clear hbi hP1 hP2
                go_wp2_with fail
                exact ⟨⟨r + 1, by omega, by omega, by go_num, Hc6, Lib.hid fun j h1 h2 h3 => Hnt.out⟩, by simp [intOf]; omega⟩
            · have hti2 : ¬ ((tn : Int) = i) := by omega
              have hti3 : ((tn : Int) == (i : Int)) = false := by simpa using hti2
              iterate 4 go_big_quiet_step (fail)
              go_big_quiet_want
              go_big_quiet_op
              refine ⟨_, Hmod.out _, ?_⟩
              go_big_quiet_on
              repeat go_big_quiet_step (fail)
              refine wpQuiet_nil ?_
              go_wp2_with fail
              exact ⟨⟨r + 1, by omega, by omega, by go_num, Hcd, Lib.hid fun j h1 h2 h3 => by
                by_cases e : j = r
                · rw [e, ← Htn.out] at h3
                  exact absurd h3 hti
                · exact Hnr.out j h1 (by omega) h3⟩, by simp [intOf]; omega⟩
          · obtain rfl : r = hi := by omega
            go_wp2_with fail
            exact ⟨⟨i + 1, by omega, by go_num, Hcr, Lib.hid fun j h1 h2 h3 => by
              by_cases e : tgt ss N j = i
              · rw [e]; exact Hnr.out j h1 h2 e
              · exact Hni.out j h1 h2 (by omega)⟩, by simp [intOf]; omega⟩
      · obtain rfl : i = N := by omega
        have hres : ∀ k, d.pl.res k = [] := fun k => by
          show (gL d.RL k).map Rs.pl = []
          rw [HR.out.2.1]
          simp [gL, aget]
        have hrow := HR.out.1.row lo (by rw [← Hrn.out.1]; omega)
        have hno : ∀ j : Nat, min an bn ≤ j → j < max an bn → ¬ TR ⟨(i : Int), qs⟩ (insS ⟨(i : Int), qs⟩ d.pl (min an bn : Nat)) qn (0, (tgt ss i j : Int), 0) := fun j h1 h2 => by
          rw [← Hlh.out.1, ← hrow]
          refine Hni.out j (by rw [Hlh.out.1]; exact h1) (by rw [Hlh.out.2]; exact h2) ?_
          have h1 := (modI_bd (ss.getD j (0, 0, 0)).2.1 (i : Int) (by omega)).1
          have h2 := (modI_bd (ss.getD j (0, 0, 0)).2.1 (i : Int) (by omega)).2
          unfold tgt
          omega
        have Hreuse := Lib.hid (reuse Hok.out HR.out.1 hres hqn (a := an) (b := bn) (by rw [← Hrn.out.1]; omega) (by rw [← Hrn.out.1]; omega) hno)
        have hLr := HL.out.newW Hcw.out
        have Hat := Lib.hid (hLr.atR (an : Int))
        have Hinv := Lib.hid HR.out.1.inv
        have hdo : d.old = 0 := HR.out.2.2
        have hlat := Hrn.out.2
        have HLr := Lib.hid hLr
        clear hres hrow hno hLr
        go_wp2_with fail
        refine Hat.out.mono ?_
        rintro e w4 ⟨hl4, ha4, ⟨_, _, sb, rfl, hs4⟩ | ⟨hno, _⟩⟩
        · have H4 := Lib.hid (And.intro hl4 hs4)
          have Hat2 := Lib.hid (hl4.atR (bn : Int))
          clear hl4 ha4 hs4 Hat
          go_wp2_with fail
          refine Hat2.out.mono ?_
          rintro e w5 ⟨hl5, ha5, ⟨_, _, sb2, rfl, hs5⟩ | ⟨hno, _⟩⟩
          · have H5 := Lib.hid (And.intro hl5 (And.intro (H4.out.2.after H4.out.1.mem ha5) hs5))
            clear hl5 ha5 hs5 Hat2
            go_wp2_with fail
            refine (queryKey_any _ _).mono ?_
            rintro e w7 ⟨rfl, c7⟩
            have H7 := Lib.hid (And.intro (H5.out.1.newW c7) (And.intro (H5.out.2.1.new c7) (H5.out.2.2.new c7)))
            clear c7
            unfold i3v
            have Hget := Lib.hid (H7.out.1.get Hok.out Hinv.out hqn H7.out.2.1 (by omega) (by omega) (by omega) (by omega))
            go_wp2_with fail
            refine Hget.out.mono ?_
            rintro e w8 ⟨d8, a8, c8, rfl, hi8, hl8, ha8, hpl8, hst8⟩
            obtain ⟨va, hva⟩ : ∃ va, va = val ⟨(i : Int), qs⟩ (insS ⟨(i : Int), qs⟩ d.pl (an : Int)) qn := ⟨_, rfl⟩
            rw [← hva] at hi8
            have hs8 := H7.out.2.2.after H7.out.1.mem ha8
            have hb8 : d8.b = d.b := ha8.b
            have hval : val ⟨(i : Int), qs⟩ (insS ⟨(i : Int), qs⟩ d8.pl (bn : Int)) qn = va ∧ (RQ qs (bn : Int) qs.length d8.pl (1, (qn : Int), 0)).2 = d8.pl := by
              have h1 := (get_val Hok.out Hinv.out (rev := (an : Int)) (by omega) (show (an : Int) ≤ d.lat by omega) hqn).1
              have h8 : (bn : Int) ≤ d8.pl.lat := by
                rw [hst8.lat]
                have e : d.pl.lat = d.lat := rfl
                omega
              have h2 := (get_val Hok.out hst8.inv (rev := (bn : Int)) (by omega) h8 hqn).1
              obtain ⟨r1, r2⟩ := Hreuse.out
              rw [← hpl8] at r1 r2
              rw [h2, h1] at r2
              simp only [List.cons.injEq, and_true] at r2
              exact ⟨by rw [hva]; exact r2, r1⟩
            have hlat8 : d8.lat = d.lat := hst8.lat
            have hold8 : d8.old = d.old := hst8.old
            obtain ⟨w9, hw9⟩ : ∃ x, x = w8.alloc (.cells #[.slice a8 1 c8, .string ⟨#[]⟩] 39) := ⟨_, rfl⟩
            have c9 : Chg [] w8 w9 := by rw [hw9]; exact (Chg.refl _ _).alloc _
            have hb9 : w9.heap[w8.heap.size]? = some (.cells #[.slice a8 1 c8, .string ⟨#[]⟩] 39 (0, 0)) := by rw [hw9]; exact heap_at _ _ _ rfl
            have H9 := Lib.hid (And.intro (hl8.newW c9) (And.intro (And.intro hb9 (hi8.same c9)) (And.intro (hs8.new c9) hst8.inv)))
            have Hval := Lib.hid hval
            have hcomp := (H9.out.1.comps)
            rw [hb8] at hcomp
            have Hcomp := Lib.hid hcomp
            obtain ⟨w8s, hw8s⟩ : ∃ n, n = w8.heap.size := ⟨_, rfl⟩
            rw [← hw8s] at H9
            clear hi8 hl8 ha8 hpl8 hst8 hs8 c9 hb9 hva hval hcomp Hget Hreuse
            go_upto_region 25 with fail
            rw [← hw9, ← hw8s]
            clear hw9 hw8s
            go_wp2_with fail
            refine Hcomp.out.mono ?_
            rintro e w10 ⟨rfl, hl10, ha10⟩
            have H10 := Lib.hid (And.intro hl10 (And.intro (And.intro (box_after H9.out.2.1.1 H9.out.1.mem ha10) (ints_after H9.out.2.1.2 H9.out.1.mem ha10)) (H9.out.2.2.1.after H9.out.1.mem ha10)))
            clear hl10 ha10 Hcomp
            go_wp2_with fail
            refine (queryKey_any _ _).mono ?_
            rintro e w11 ⟨rfl, c11⟩
            have H11 := Lib.hid (And.intro (H10.out.1.newW c11) (And.intro (And.intro ((c11.block _ (lt_of_obj H10.out.2.1.1) (by simp)).trans H10.out.2.1.1) (H10.out.2.1.2.same c11)) (H10.out.2.2.new c11)))
            clear c11
            unfold i3v
            have Hget2 := Lib.hid (H11.out.1.get Hok.out H9.out.2.2.2 hqn H11.out.2.2 (by omega) (by omega) (by omega) (by omega))
            go_wp2_with fail
            refine Hget2.out.mono ?_
            rintro e w12 ⟨d12, a12, c12, rfl, hi12, hl12, ha12, hpl12, hst12⟩
            rw [Hval.out.1] at hi12
            have hp12 : d12.pl = d8.pl := by rw [hpl12]; exact Hval.out.2
            have hcnt : d12.cnt = d8.cnt := congrArg HS.cnt hp12
            have hb12 : d12.b = d.b := ha12.b.trans hb8
            have hbx := box_after H11.out.2.1.1 H11.out.1.mem ha12
            have hix := ints_after H11.out.2.1.2 H11.out.1.mem ha12
            obtain ⟨w13, hw13⟩ : ∃ x, x = w12.alloc (.cells #[.slice a12 1 c12, .string ⟨#[]⟩] 39) := ⟨_, rfl⟩
            have c13 : Chg [] w12 w13 := by rw [hw13]; exact (Chg.refl _ _).alloc _
            have hb13 : w13.heap[w12.heap.size]? = some (.cells #[.slice a12 1 c12, .string ⟨#[]⟩] 39 (0, 0)) := by rw [hw13]; exact heap_at _ _ _ rfl
            have H13 := Lib.hid (And.intro (hl12.newW c13) (And.intro (And.intro ((c13.block _ (lt_of_obj hbx) (by simp)).trans hbx) (hix.same c13)) (And.intro hb13 (hi12.same c13))))
            obtain ⟨w12s, hw12s⟩ : ∃ n, n = w12.heap.size := ⟨_, rfl⟩
            rw [← hw12s] at H13
            clear hi12 hl12 ha12 hpl12 hst12 hp12 hbx hix c13 hb13 Hget2
            go_upto_region 27 with fail
            rw [← hw13, ← hw12s]
            clear hw13 hw12s
            go_wp2_with fail
            refine (memoExample_any _).mono ?_
            rintro e w14 ⟨rfl, c14⟩
            have hb14 := (c14.block _ (lt_of_obj H13.out.2.1.1) (by simp)).trans H13.out.2.1.1
            have hb15 := (c14.block _ (lt_of_obj H13.out.2.2.1) (by simp)).trans H13.out.2.2.1
            have v0 : w14.cell? ⟨w8s, 0, none⟩ = some (.slice a8 1 c8) := cell_of_heap hb14 rfl
            have v1 : w14.cell? ⟨w8s, 1, none⟩ = some (.string ⟨#[]⟩) := cell_of_heap hb14 rfl
            have u0' : w14.cell? ⟨w12s, 0, none⟩ = some (.slice a12 1 c12) := cell_of_heap hb15 rfl
            have u1 : w14.cell? ⟨w12s, 1, none⟩ = some (.string ⟨#[]⟩) := cell_of_heap hb15 rfl
            have Heq := Lib.hid (equalValues_any w14 (.slice a8 1 c8) (.slice a12 1 c12) _ _ (H13.out.2.1.2.same c14) (H13.out.2.2.2.same c14))
            have HL14 := Lib.hid (H13.out.1.newW c14)
            clear c14 hb14 hb15
            go_wp2_with fail
            refine Heq.out.mono ?_
            rintro e w15 ⟨rfl, c15⟩
            have hL15 := HL14.out.newW c15
            have hcomp := hL15.comps
            rw [hb12, hcnt] at hcomp
            have Hcomp := Lib.hid hcomp
            simp only [decide_true]
            clear c15 hL15 hcomp v0 v1 u0' u1
            go_wp2_with fail
            refine Hcomp.out.mono ?_
            rintro e w16 ⟨rfl, hl16, _⟩
            have Hfin := Lib.hid (Hc2.out.trans hl16.chg)
            clear hl16
            go_wp2_with fail
            go_ret
            exact ⟨rfl, Hfin.out⟩
          · exact absurd ⟨by omega, by omega⟩ hno
        · exact absurd ⟨by omega, by omega⟩ hno
end Go.Proofs.Ytggiddhhbilcjaa.Sn
