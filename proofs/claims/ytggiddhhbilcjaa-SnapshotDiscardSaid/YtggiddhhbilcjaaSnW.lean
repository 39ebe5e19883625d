/- SnapshotDiscard: the law's walk. -/
import Derived.Test.YtggiddhhbilcjaaSnV
namespace Go.Proofs.Ytggiddhhbilcjaa.Sn
open Go.RowKit Go.ChangeMaps Go.MapKept Go.MuLone
set_option linter.unusedVariables false
set_option linter.unusedSimpArgs false
set_option maxRecDepth 100000 in
set_option maxHeartbeats 16000000 in
theorem discardLaw_any (p0 : Nat → Prop) (w : World) (inp : Int) (qs : List (List QO)) (ss : List I3) (q rv dv : Int) (qv sv : Value) (hq : I3ss p0 w qv qs) (hs : I3s p0 w sv ss) (hp0 : ∀ k, p0 k → k < w.heap.size) :
    Calls Try.prog 5 #[.agg #[.int .i64 inp, qv], sv, .int .i64 q, .int .i64 rv, .int .i64 dv] w fun e w' => e = .returned (.bool true) ∧ Chg [] w w' := by
  obtain ⟨av, capv, rfl, hlm, hlc⟩ := hq.shape
  have Hq := Lib.hid hq
  have Hs := Lib.hid hs
  have Hp0 := Lib.hid hp0
  have hc0 : Chg [] w (w.alloc (.cells #[.int .i64 inp, .slice av qs.length capv] 24)) := (Chg.refl [] w).alloc _
  have Hc0 := Lib.hid hc0
  clear hq hs hp0 hc0
  unfold maxLen at hlm
  go_enter Try.func5, Try.ntmps5
  go_wp2_with fail
  refine (memoExample_any _).mono ?_
  rintro e w1 ⟨rfl, c1⟩
  have m0 : w1.cell? ⟨w.heap.size, 0, none⟩ = some (.int .i64 inp) := (c1.cell (p := ⟨w.heap.size, 0, none⟩) (by simp) (by simp)).trans (cell_of_heap (heap_at _ _ _ rfl) rfl)
  have m1 : w1.cell? ⟨w.heap.size, 1, none⟩ = some (.slice av qs.length capv) := (c1.cell (p := ⟨w.heap.size, 1, none⟩) (by simp) (by simp)).trans (cell_of_heap (heap_at _ _ _ rfl) rfl)
  have lm := lt_of_cell m0
  have Hc1 := Lib.hid (Hc0.out.trans c1)
  clear c1
  go_wp2_with fail
  refine (usable_any (fun g => g < w1.heap.size) _ inp qs _ (Hq.out.old Hp0.out Hc1.out)).mono ?_
  rintro e w2 ⟨b, rfl, hb, c2⟩
  have n0 := (c2.cell (p := ⟨w.heap.size, 0, none⟩) lm (by simp)).trans m0
  have n1 := (c2.cell (p := ⟨w.heap.size, 1, none⟩) lm (by simp)).trans m1
  have ln := lt_of_cell n0
  have Hc2 := Lib.hid (Hc1.out.trans c2)
  clear c2 m0 m1 lm
  cases b with
  | false =>
    clear hb
    go_wp2_with fail
    refine (memoExample_any _).mono ?_
    rintro e w3 ⟨rfl, c3⟩
    go_wp2
    go_ret
    exact ⟨rfl, Hc2.out.trans c3⟩
  | true =>
    obtain ⟨hok, hl0, hi0⟩ := hb.1 rfl
    clear hb
    obtain ⟨N, rfl⟩ := Int.eq_ofNat_of_zero_le hok.inp.1
    have hN := hok.inp.2
    have hL := hok.size
    simp only at hN hL
    have Hok := Lib.hid hok
    have Hh := Lib.hid (history_any hok w2 hl0 (by omega) _ _ ss (Hq.out.old Hp0.out Hc2.out) (I3s.imp (I3s.kept (S := fun _ => False) Hs.out Hc2.out.p (fun _ _ h => h)) fun g hg => Nat.lt_of_lt_of_le (Hp0.out g hg) Hc2.out.size))
    obtain ⟨qn, hqn, hmq⟩ := modN q qs.length (by omega) (by omega)
    have Hmq := Lib.hid (fun w => (hmq w).mono fun e w' ⟨h1, h2⟩ => And.intro h1 h2.symm)
    clear hok hmq
    go_wp2_with fail
    refine Hh.out.mono ?_
    rintro e w3 ⟨d, v, rows, B, rfl, hlaw, hrel, hrl, hold, hst, hlen⟩
    obtain ⟨gs, cs, u0, hv, h1, h2, cu0, hrow0⟩ := hst.at_ (j := 0) (by omega)
    subst hv
    obtain ⟨rn, hrn⟩ : ∃ n, n = rows.length := ⟨_, rfl⟩
    rw [← hrn] at hst h1 ⊢
    have hr16 : 1 ≤ rn ∧ rn ≤ 16 := by omega
    have hlat : d.lat + 1 = rn := by rw [hrn]; exact hrel.lat
    obtain ⟨vn, hvn, hmv⟩ := modN rv rn (by omega) (by omega)
    obtain ⟨dn, hdn, hmd⟩ := modN dv rn (by omega) (by omega)
    have Hmv := Lib.hid (fun w => (hmv w).mono fun e w' ⟨h1, h2⟩ => And.intro h1 h2.symm)
    have Hmd := Lib.hid (fun w => (hmd w).mono fun e w' ⟨h1, h2⟩ => And.intro h1 h2.symm)
    have m0' := n0
    have m1' := n1
    have n0 := (hlaw.chg.cell ln (by simp)).trans n0
    have n1 := (hlaw.chg.cell ln (by simp)).trans n1
    have HL := Lib.hid hlaw
    have HN := Lib.hid (And.intro ln (And.intro m0' m1'))
    have HR := Lib.hid (And.intro hrel (And.intro hrl hold))
    have HSt := Lib.hid hst
    unfold maxLen at h2
    have Hrn := Lib.hid (And.intro hrn hlat)
    clear hlaw hrel hrl hold hst hlen hrow0 cu0 hmv hmd ln Hh hrn hlat m0' m1'
    have hrel := HR.out.1
    have hlat := Hrn.out.2
    have hdo : d.old = 0 := HR.out.2.2
    have Hinv := Lib.hid (show HInv ⟨(N : Int), qs⟩ { d.pl with old := (dn : Int) } from ⟨hrel.inv.vers, hrel.inv.lat, hrel.inv.sep, fun k r hr => by obtain ⟨q, a, b, c⟩ := hrel.inv.res k r hr; exact ⟨q, a, b, c.of_vers rfl rfl⟩⟩)
    obtain ⟨d1, hd1⟩ : ∃ x : Hm, x = { d with old := (dn : Int) } := ⟨_, rfl⟩
    have Hd1 := Lib.hid hd1
    have Hat := Lib.hid (HL.out.atR (vn : Int))
    have Hdisc := Lib.hid (fun w' (h : LawH ⟨(N : Int), qs⟩ w2 B w' d) => (h.discard HR.out.2.1 (rev := (dn : Int)) (by omega) (by omega) (by omega)).mono (R' := fun e w'' => e = .returned (.int .i64 (dn : Int)) ∧ LawH ⟨(N : Int), qs⟩ w2 B w'' d1 ∧ AfterH w' w'' d d1) fun e w'' ⟨he, h1, h2⟩ => by
      have hm : max d.old (min (dn : Int) d.lat) = dn := by omega
      rw [hm] at he h1 h2
      exact ⟨by rw [he, hdo]; simp, hd1 ▸ h1, hd1 ▸ h2⟩)
    have Hdisc2 := Lib.hid (fun w' (h : LawH ⟨(N : Int), qs⟩ w2 B w' d1) => (h.discard (by rw [hd1]; exact HR.out.2.1) (rev := (dn : Int)) (by rw [hd1]; simp only; omega) (by rw [hd1]; simp only; omega) (by omega)).mono (R' := fun e w'' => e = .returned (.int .i64 0) ∧ LawH ⟨(N : Int), qs⟩ w2 B w'' d1 ∧ AfterH w' w'' d1 d1) fun e w'' ⟨he, h1, h2⟩ => by
      have hm : max d1.old (min (dn : Int) d1.lat) = d1.old := by rw [hd1]; simp only; omega
      rw [hm] at he h1 h2
      exact ⟨by rw [he]; simp, h1, h2⟩)
    have hb1 : d1.b = d.b := by rw [hd1]
    rw [hb1] at Hdisc2
    have Hlat := Lib.hid hlat
    clear hrel hlat hd1
    go_wp2_with (first | (go_at_call 9; (first | with_reducible refine (Hmq.out _).mono ?_ | with_reducible refine (Hmv.out _).mono ?_ | with_reducible refine (Hmd.out _).mono ?_); rintro e w' ⟨rfl, rfl⟩))
    refine Hat.out.mono ?_
    rintro e w4 ⟨hl4, ha4, ⟨_, _, sb, rfl, hs4⟩ | ⟨hno, _⟩⟩
    · have H4 := Lib.hid (And.intro hl4 (And.intro ha4 hs4))
      clear hl4 ha4 hs4 n0 n1
      go_wp2_with fail
      refine (Hdisc.out _ H4.out.1).mono ?_
      rintro e w5 ⟨rfl, hl5, ha5⟩
      have H5 := Lib.hid (And.intro hl5 (And.intro (H4.out.2.1.trans ha5) (H4.out.2.2.after H4.out.1.mem ha5)))
      clear hl5 ha5
      go_wp2_with fail
      refine (Hdisc2.out _ H5.out.1).mono ?_
      rintro e w6 ⟨rfl, hl6, ha6⟩
      have H6 := Lib.hid (And.intro hl6 (And.intro (H5.out.2.1.trans ha6) (H5.out.2.2.after H5.out.1.mem ha6)))
      clear hl6 ha6
      go_wp2_with fail
      refine (queryKey_any _ _).mono ?_
      rintro e w7 ⟨rfl, c7⟩
      have H7 := Lib.hid (And.intro (H6.out.1.newW c7) (And.intro (H6.out.2.1.thenNew c7) (H6.out.2.2.new c7)))
      have hod : d1.old = (dn : Int) := by rw [Hd1.out]
      have hld : d1.lat = d.lat := by rw [Hd1.out]
      have hpd : d1.pl = { d.pl with old := (dn : Int) } := by rw [Hd1.out]; rfl
      clear c7
      unfold i3v
      by_cases hlt : vn < dn
      · have hdl : ((vn : Int) < dn) := by omega
        have Hst := Lib.hid (H7.out.1.stale qn H7.out.2.2 (by omega))
        clear hpd
        go_wp2_with fail
        refine Hst.out.mono ?_
        rintro e w8 ⟨rfl, hl8, ha8⟩
        obtain ⟨w9, hw9⟩ : ∃ x, x = w8.alloc (.cells #[.slice none 0 0, .string ⟨#[]⟩] 39) := ⟨_, rfl⟩
        have c9 : Chg [] w8 w9 := by rw [hw9]; exact (Chg.refl _ _).alloc _
        have hb9 : w9.heap[w8.heap.size]? = some (.cells #[.slice none 0 0, .string ⟨#[]⟩] 39 (0, 0)) := by rw [hw9]; exact heap_at _ _ _ rfl
        have hl9 := hl8.newW c9
        have hat9 := hl9.atR (vn : Int)
        rw [hb1] at hat9
        have Hat9 := Lib.hid hat9
        have H9 := Lib.hid (And.intro hl9 hb9)
        clear hl8 ha8 c9 hb9 hl9 hat9
        go_upto_region 13 with fail
        rw [← hw9]
        clear hw9
        go_wp2_with fail
        refine Hat9.out.mono ?_
        rintro e w10 ⟨hl10, ha10, ⟨hx, _⟩ | ⟨_, rfl⟩⟩
        · exfalso; omega
        · have hb10 := box_after H9.out.2 H9.out.1.mem ha10
          have H10 := Lib.hid (And.intro hl10 hb10)
          clear hl10 ha10 hb10
          go_wp2_with fail
          refine (memoExample_any _).mono ?_
          rintro e w11 ⟨rfl, c11⟩
          have hb11 := (c11.block _ (lt_of_obj H10.out.2) (by simp)).trans H10.out.2
          have b0 : w11.cell? ⟨w8.heap.size, 0, none⟩ = some (.slice none 0 0) := cell_of_heap hb11 rfl
          have hfin := Hc2.out.trans (H10.out.1.chg.trans c11)
          have Hfin := Lib.hid hfin
          clear c11 hb11 hfin
          go_wp2_with fail
          go_ret
          exact ⟨rfl, Hfin.out⟩
      · have hdl : ¬ ((vn : Int) < dn) := by omega
        have Hst := Lib.hid (H7.out.1.get Hok.out (by rw [hpd]; exact Hinv.out) hqn H7.out.2.2 (by omega) (by have := Hlat.out; omega) (by have := Hlat.out; omega) (by omega))
        go_wp2_with fail
        refine Hst.out.mono ?_
        rintro e w8 ⟨d8, a8, c8, rfl, hi8, hl8, ha8, hpl8, hst8⟩
        obtain ⟨va, hva⟩ : ∃ va, va = val ⟨(N : Int), qs⟩ (rows.getD vn []) qn := ⟨_, rfl⟩
        have hrow := HR.out.1.row vn (by rw [← Hrn.out.1]; omega)
        have hins : insS ⟨(N : Int), qs⟩ d1.pl (vn : Int) = rows.getD vn [] := by rw [hrow, hpd]; exact insS_of_vers rfl _
        rw [hins, ← hva] at hi8
        have hod8 : d8.old = d1.old := hst8.old
        have hld8 : d8.lat = d1.lat := hst8.lat
        have hb8 : d8.b = d.b := ha8.b.trans hb1
        have hA8 := H7.out.2.1.trans ha8
        have H8 := Lib.hid (And.intro hl8 (And.intro hA8 hi8))
        have Hva := Lib.hid hva
        clear hl8 ha8 hpl8 hst8 hA8 hi8 hva hrow hins hpd Hst Hdisc Hdisc2 Hat
        obtain ⟨w9, hw9⟩ : ∃ x, x = w8.alloc (.cells #[.slice a8 1 c8, .string ⟨#[]⟩] 39) := ⟨_, rfl⟩
        have c9 : Chg [] w8 w9 := by rw [hw9]; exact (Chg.refl _ _).alloc _
        have hb9 : w9.heap[w8.heap.size]? = some (.cells #[.slice a8 1 c8, .string ⟨#[]⟩] 39 (0, 0)) := by rw [hw9]; exact heap_at _ _ _ rfl
        have hl9 := H8.out.1.newW c9
        have hat9 := hl9.atR (vn : Int)
        rw [hb8] at hat9
        have Hat9 := Lib.hid hat9
        have H9 := Lib.hid (And.intro hl9 (And.intro (H8.out.2.1.thenNew c9) (And.intro (H8.out.2.2.same c9) hb9)))
        clear c9 hb9 hl9 hat9
        go_upto_region 13 with fail
        rw [← hw9]
        clear hw9
        go_wp2_with fail
        refine Hat9.out.mono ?_
        rintro e w10 ⟨hl10, ha10, ⟨_, _, sb2, rfl, _⟩ | ⟨hno, _⟩⟩
        · have hb10 := box_after H9.out.2.2.2 H9.out.1.mem ha10
          have hi10 := ints_after H9.out.2.2.1 H9.out.1.mem ha10
          have hA10 := H9.out.2.1.trans ha10
          have hst10 := HSt.out.after HL.out.mem hA10
          obtain ⟨g', cap', u, he, _, _, cu, hrow⟩ := hst10.at_ (j := vn) (by rw [← Hrn.out.1]; omega)
          simp only [Value.slice.injEq, Option.some.injEq, Addr.mk.injEq, and_true] at he
          obtain ⟨rfl, hz, rfl⟩ := he
          clear hz
          have hRe : rows[vn]'(by rw [← Hrn.out.1]; omega) = rows.getD vn [] := by rw [List.getD_eq_getElem?_getD, List.getElem?_eq_getElem (show vn < rows.length by rw [← Hrn.out.1]; omega), Option.getD_some]
          have hRl : (rows.getD vn []).length = N := by rw [← hRe]; exact rows_len (p := ⟨(N : Int), qs⟩) rfl HR.out.1 _
          rw [hRe] at hrow
          have n0 := (hl10.chg.cell HN.out.1 (by simp)).trans HN.out.2.1
          have n1 := (hl10.chg.cell HN.out.1 (by simp)).trans HN.out.2.2
          have H10 := Lib.hid (And.intro hl10 (And.intro hb10 hi10))
          have Hrow := Lib.hid hrow
          have HRl := Lib.hid hRl
          have hv1 : (vn : Int) < rn := by omega
          clear hl10 ha10 hb10 hi10 hA10 hst10 hrow hRe hRl
          go_upto_region 16 with fail
          refine wp_region_U (fun w' => w'.cell? ⟨w.heap.size, 0, none⟩ = some (.int .i64 (N : Int)) ∧ w'.cell? ⟨w.heap.size, 1, none⟩ = some (.slice av qs.length capv) ∧ w'.cell? ⟨gs, vn, none⟩ = some u) (fun _ => True) 6 (by kernel_rfl) ?_
          intro wd hwd
          have hcd : Chg [] w10 wd := by rw [hwd]; exact (Chg.refl _ _).drew
          have hSW := And.intro ((hcd.cell (lt_of_cell n0) (by simp)).trans n0) (And.intro ((hcd.cell (lt_of_cell n1) (by simp)).trans n1) ((hcd.cell (lt_of_cell cu) (by simp)).trans cu))
          have Hcd := Lib.hid hcd
          clear hwd hcd n0 n1 cu
          refine anyU_take (i := 0) (v := .agg #[.int .i64 (N : Int), .slice av qs.length capv]) rfl (by kernel_rfl) (fun _ _ _ h => h) (Or.inl ⟨by rfl, fun w' hS => by go_simp⟩) hSW trivial ?_
          simp only [Act.put, List.setIfInBounds_toArray, List.set_cons_zero, List.set_cons_succ]
          refine anyU_pure (i := 1) (v := .slice (some ⟨gs, 0, none⟩) rn cs) rfl (by kernel_rfl) (fun _ _ _ h => h) (Or.inl ⟨by rfl, fun w' hS => by go_simp⟩) (fun _ => hSW) trivial ?_
          simp only [Act.put, List.setIfInBounds_toArray, List.set_cons_zero, List.set_cons_succ]
          refine anyU_pure (i := 2) (v := .int .i64 (vn : Int)) rfl (by kernel_rfl) (fun _ _ _ h => h) (Or.inl ⟨by rfl, fun w' hS => by go_simp⟩) (fun _ => hSW) trivial ?_
          simp only [Act.put, List.setIfInBounds_toArray, List.set_cons_zero, List.set_cons_succ]
          refine anyU_pure (i := 3) (v := .pointer (some ⟨gs, vn, none⟩)) rfl (by kernel_rfl) (fun _ _ _ h => h) (Or.inl ⟨by rfl, fun w' hS => by go_simp⟩) (fun _ => hSW) trivial ?_
          simp only [Act.put, List.setIfInBounds_toArray, List.set_cons_zero, List.set_cons_succ]
          refine anyU_take (i := 4) (v := u) rfl (by kernel_rfl) (fun _ _ _ h => h) (Or.inl ⟨by rfl, fun w' hS => by go_simp⟩) hSW trivial ?_
          simp only [Act.put, List.setIfInBounds_toArray, List.set_cons_zero, List.set_cons_succ]
          refine anyU_pure (i := 5) (v := .int .i64 (qn : Int)) rfl (by kernel_rfl) (fun _ _ _ h => h) (Or.inl ⟨by rfl, fun w' hS => by go_simp⟩) (fun _ => hSW) trivial ?_
          simp only [Act.put, List.setIfInBounds_toArray, List.set_cons_zero, List.set_cons_succ]
          clear hSW
          refine anyU_one (k := 6) (by kernel_rfl) rfl (fun K hK => ?_)
          go_simp
          refine (eval_any (fun g => g < wd.heap.size) wd ⟨(N : Int), qs⟩ (rows.getD vn []) qn _ _ (Hq.out.old Hp0.out ((Hc2.out.trans H10.out.1.chg).trans Hcd.out)) (IntsP.imp (intsP_of_row (hrow_new Hrow.out Hcd.out)) fun g hg => hg.2) (fun k hk => hk)).mono ?_
          rintro e w11 ⟨h11 | h11, c11⟩
          · obtain ⟨_, rfl⟩ := h11
            have Hc11 := Lib.hid (Hcd.out.trans c11)
            have hva := Hva.out
            rw [show ((qn : Int)).toNat = qn from rfl, ← hva]
            clear c11 hva
            refine hK _ _ (fun h => by simp at h) trivial ?_
            clear hK K
            refine anyU_one (k := 7) (by kernel_rfl) rfl (fun K hK => ?_)
            go_simp
            refine hK _ _ (fun h => by simp at h) trivial ?_
            clear hK K
            refine anyU_pure (i := 8) (v := .int .i64 va) rfl (by kernel_rfl) (fun _ _ _ h => h) (Or.inl ⟨by rfl, fun w' hS => by go_simp⟩) (fun h => by simp at h) trivial ?_
            simp only [Act.put, List.setIfInBounds_toArray, List.set_cons_zero, List.set_cons_succ]
            refine anyU_pure (i := 9) (v := .int .i64 0) rfl (by kernel_rfl) (fun _ _ _ h => h) (Or.inl ⟨by rfl, fun w' hS => by go_simp⟩) (fun h => by simp at h) trivial ?_
            simp only [Act.put, List.setIfInBounds_toArray, List.set_cons_zero, List.set_cons_succ]
            refine anyU_one (k := 10) (by kernel_rfl) rfl (fun K hK => ?_)
            go_simp
            refine hK _ _ (fun h => by simp at h) trivial ?_
            clear hK K
            refine anyU_one (k := 11) (by kernel_rfl) rfl (fun K hK => ?_)
            go_simp
            refine hK _ _ (fun h => by simp at h) trivial ?_
            clear hK K
            refine anyU_done (by kernel_rfl) ?_
            have hb11 := (Hc11.out.block _ (lt_of_obj H10.out.2.1) (by simp)).trans H10.out.2.1
            have v0 : w11.cell? ⟨w8.heap.size, 0, none⟩ = some (.slice a8 1 c8) := cell_of_heap hb11 rfl
            have v1 : w11.cell? ⟨w8.heap.size, 1, none⟩ = some (.string ⟨#[]⟩) := cell_of_heap hb11 rfl
            have lv := lt_of_cell v0
            have Hi11 := Lib.hid (H10.out.2.2.same Hc11.out)
            have K5 := Lib.hid (fun (wz : World) (hz : Chg [] w11 wz) => (And.intro ((hz.cell (p := ⟨w8.heap.size, 0, none⟩) lv (by simp)).trans v0) ((hz.cell (p := ⟨w8.heap.size, 1, none⟩) lv (by simp)).trans v1)))
            clear hb11 lv
            go_wp2_with fail
            go_region_held3 (fun w' => w'.cell? ⟨w8.heap.size, 0, none⟩ = some (.slice a8 1 c8) ∧ w'.cell? ⟨w8.heap.size, 1, none⟩ = some (.string ⟨#[]⟩))
              (first | (go_keep; done) | (exact K5.out _ (by assumption)))
              (first
                | (go_at_call 6; refine (memoExample_any _).mono ?_; rintro e w15 ⟨rfl, c15⟩; have H8' := ((Chg.refl [] w11).drew).trans c15; have HH8 := Lib.hid H8'; clear c15)
                | (go_at_call 15; (with_reducible refine (number_any va _).mono ?_); rintro e w16 ⟨a16, c16, rfl, hi16, cc16⟩; have H9' := HH8.out.trans cc16; have HH9 := Lib.hid H9'; have Hi16 := Lib.hid hi16; clear cc16 hi16 H8')
                | (go_at_call 17; (with_reducible refine (equalValues_any _ (.slice a8 1 c8) (.slice a16 1 c16) _ _ (Hi11.out.same HH9.out) Hi16.out).mono ?_); rintro e w17 ⟨rfl, c17⟩; have H10' := HH9.out.trans c17; have HH10 := Lib.hid H10'; simp only [decide_true]; clear c17 H9'))
            all_goals
              go_wp2_with fail
              go_ret
              exact ⟨rfl, (Hc2.out.trans ((H10.out.1.chg.trans Hc11.out))).trans HH10.out⟩
          · exact absurd ⟨Hok.out, by rw [HRl.out], by omega, by simp only; omega⟩ h11.1
        · exact absurd ⟨by omega, by have := Hlat.out; omega⟩ hno
    · exact absurd ⟨by omega, by have := Hlat.out; omega⟩ hno
end Go.Proofs.Ytggiddhhbilcjaa.Sn
