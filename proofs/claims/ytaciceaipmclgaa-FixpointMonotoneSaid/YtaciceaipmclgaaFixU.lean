/- Remove. -/
import Derived.Test.YtaciceaipmclgaaFixT
import Derived.IntWalk
namespace Go.Proofs.Ytaciceaipmclgaa
open Go.RowKit
set_option linter.unusedVariables false
/-- within a pass -/
structure DlRel (R : Rules) (S D0 : List Nat) (i : Nat) (r : Rule) (gd : Nat) (w4 : World) (a k m : Nat) (b : Bool) (wr : World) (D : List Nat) : Prop where
  ps : Ps R S D0 D i r a k m b
  row : wr.rowIs gd 3 R.length (fun j => nv (D.getD j 0))
  chg : Chg [gd] w4 wr
/-- between two passes -/
structure DlOut (R : Rules) (S : List Nat) (i : Nat) (r : Rule) (gd : Nat) (w4 : World) (k : Nat) (b : Bool) (wr : World) (D : List Nat) : Prop where
  len : D.length = R.length
  bd : ∀ x ∈ D, x ≤ univ
  at_ : sub (der S r) (D.getD i 0)
  row : wr.rowIs gd 3 R.length (fun j => nv (D.getD j 0))
  chg : Chg [gd] w4 wr
  meas : (if b then lack D + 1 else 0) ≤ k
  del : b = false → Del R S D i r
theorem DlRel.start {R : Rules} {S D : List Nat} {i : Nat} {r : Rule} {gd k : Nat} {w4 wr : World} (h : DlOut R S i r gd w4 k true wr D) : DlRel R S D i r gd w4 0 0 0 false wr D :=
  ⟨Ps.start h.len h.bd h.at_, h.row, h.chg⟩
theorem DlRel.next {R : Rules} {S D0 D : List Nat} {i : Nat} {r x : Rule} {gd a k m c : Nat} {w4 wr w' : World} {b : Bool} (h : DlRel R S D0 i r gd w4 a k m b wr D) (hc : Chg [] wr w') (hx : (R.getD a []).getD k (0, []) = x) (hm : m < x.2.length) (hcc : (x.2.getD m 0).toNat = c)
    (hs : sub (der S x &&& D.getD c 0) (D.getD a 0)) : DlRel R S D0 i r gd w4 a k (m + 1) b w' D :=
  ⟨h.ps.next hx hm hcc hs, h.row.of_block (hc.block gd h.row.lt (by simp)), h.chg.new hc⟩
theorem DlRel.grow {R : Rules} {S D0 D : List Nat} {i : Nat} {r : Rule} {gd a k m e mr : Nat} {w4 wr w' : World} {b : Bool} (h : DlRel R S D0 i r gd w4 a k m b wr D) (hc : Chg [] wr w') (ha : a < R.length) (he : e ≤ univ) (hn : ¬ sub e (D.getD a 0)) (hmr : D.getD a 0 ||| e = mr) :
    DlRel R S D0 i r gd w4 a k (m + 1) true (w'.setCell ⟨gd, a, none⟩ (nv mr)) (D.set a mr) := by
  subst hmr
  refine ⟨h.ps.grow ha he hn, ((h.row.of_block (hc.block gd h.row.lt (by simp))).set a _).congr (fun j hj => ?_), (h.chg.new hc).setCell (Or.inl (by simp)) _⟩
  rw [getD_set D a _ (by rw [h.ps.len]; exact ha)]
  split <;> rfl
theorem DlRel.to {R : Rules} {S D0 D : List Nat} {i : Nat} {r : Rule} {gd a k m : Nat} {w4 wr w' : World} {b : Bool} (h : DlRel R S D0 i r gd w4 a k m b wr D) (hc : Chg [] wr w') : DlRel R S D0 i r gd w4 a k m b w' D :=
  ⟨h.ps, h.row.of_block (hc.block gd h.row.lt (by simp)), h.chg.new hc⟩
theorem DlRel.rule {R : Rules} {S D0 D : List Nat} {i : Nat} {r : Rule} {gd a k m : Nat} {w4 wr : World} {b : Bool} (h : DlRel R S D0 i r gd w4 a k m b wr D) (hk : k < (R.getD a []).length) (hm : ((R.getD a []).getD k (0, [])).2.length ≤ m) : DlRel R S D0 i r gd w4 a (k + 1) 0 b wr D :=
  ⟨h.ps.rule hk hm, h.row, h.chg⟩
theorem DlRel.set {R : Rules} {S D0 D : List Nat} {i : Nat} {r : Rule} {gd a k m : Nat} {w4 wr : World} {b : Bool} (h : DlRel R S D0 i r gd w4 a k m b wr D) (hk : (R.getD a []).length ≤ k) : DlRel R S D0 i r gd w4 (a + 1) 0 0 b wr D :=
  ⟨h.ps.set hk, h.row, h.chg⟩
theorem DlRel.fin {R : Rules} {S D0 D : List Nat} {i : Nat} {r : Rule} {gd : Nat} {w4 wr : World} {b : Bool} (h : DlRel R S D0 i r gd w4 R.length 0 0 b wr D) : DlOut R S i r gd w4 (if b then lack D + 1 else 0) b wr D :=
  ⟨h.ps.len, h.ps.bd, h.ps.at_, h.row, h.chg, Nat.le_refl _, fun e => by subst e; exact h.ps.del⟩
def RemPost (B b gs : Nat) (R : Rules) (S : List Nat) (w : World) (e : Ending) (w' : World) : Prop := e = .returned (.int .i64 0) ∧ Solv B b gs R S w' ∧ Chg [b, gs] w w'
theorem nums_of_row {w : World} {g n : Nat} {S : List Nat} (h : w.rowIs g 3 n (fun j => nv (S.getD j 0))) (hn : n ≤ 60) (hl : S.length = n) : Nums (fun x => x = g) w (.slice (some ⟨g, 0, none⟩) n n) S := by
  subst hl
  exact slf_row (by omega) h
set_option maxRecDepth 100000 in
set_option maxHeartbeats 4000000 in
theorem remove_any (B b gs : Nat) (R R1 : Rules) (S S1 : List Nat) (i : Nat) (r : Rule) (w : World) (hR1 : R1 = addR R i r) (h : Solv B b gs R1 S1 w) (hi : i < R.length) (hok : Okr R) (hS : Lst R S) :
    Calls Try.prog 14 #[.pointer (some ⟨b, 0, none⟩), .int .i64 (i : Int), .int .i64 ((R.getD i []).length : Int)] w (RemPost B b gs R S w) := by
  have hlen1 : R1.length = R.length := by rw [hR1, addR_len]
  have hn60 : R1.length ≤ 60 := h.ok.size
  have hi1 : i < R1.length := by rw [hlen1]; exact hi
  have hRi : R1.getD i [] = R.getD i [] ++ [r] := by rw [hR1, addR_getD hi, if_pos rfl]
  obtain ⟨k, hk⟩ : ∃ k, (R.getD i []).length = k := ⟨_, rfl⟩
  rw [hk]
  have hlk : (R1.getD i []).length = k + 1 := by rw [hRi, List.length_append, List.length_singleton, hk]
  obtain ⟨rv, c0, hru⟩ := h.c0
  obtain ⟨av, capv, rfl⟩ : ∃ a cap, rv = .slice a R1.length cap := by obtain ⟨a, cap, h, _⟩ := hru; exact ⟨a, cap, h⟩
  have c1 := h.c1
  have lb := lt_of_cell c0
  obtain ⟨gR, offR, uR, rfl, qi, hl⟩ := hru.at i hi1
  have hl' := hl
  obtain ⟨au, capu, rfl, _⟩ := hl.shape
  rw [hlk] at qi
  obtain ⟨g2, off2, u2, hau, q1, q2, hints⟩ := by
    rw [hlk] at hl
    exact hl.at k (by rw [hlk]; omega)
  rw [hRi] at q1 hints
  have hge : (R.getD i [] ++ [r]).getD k (0, []) = r := by rw [← hk]; simp
  rw [hge] at q1 hints
  have hkq : k ≤ 20 := by have := h.ok.rules _ (getD_memb' hi1 (d := [])); omega
  have hrok := h.ok.okl i hi1
  have hrm : r ∈ R1.getD i [] := by rw [hRi]; simp
  have hmask := hrok.mask r hrm
  have hidx := hrok.idx r hrm
  have hlS1 : S1.length = R1.length := h.lst.len
  have hder : der S1 r ≤ 1048575 := der_univ hmask.2 S1
  have hnums := nums_of_row h.row hn60 hlS1
  obtain ⟨ui, capi, rfl⟩ := SlF.shape hints
  subst hau
  have lgR := lt_of_cell qi
  have lg2 := lt_of_cell q1
  have hmk := run_make_row' (P := Try.prog) 23 3 (.int .i64 0) 8 Try.underlying23 Try.infoInt rfl .i64 .i64 R1.length (by omega) (by omega)
  have hmk' := hmk w
  clear hmk
  have H := Lib.hid h
  have Hru := Lib.hid hru
  have Hl := Lib.hid hl'
  have Hints := Lib.hid hints
  have Hnums := Lib.hid hnums
  have Hpl := Lib.hid (And.intro hR1 (And.intro hlen1 (And.intro hRi (And.intro hk (And.intro hlk (And.intro hok hS))))))
  have Hrr := Lib.hid (And.intro hmask hidx)
  have HlS1 := Lib.hid hlS1
  clear h hru hl hl' hints hnums hR1 hlen1 hRi hk hlk hok hS hge hrok hrm hmask hidx hlS1
  have hi0' : (0 : Int) ≤ (i : Int) := by omega
  have hi1' : (i : Int) < R1.length := by omega
  have hk0' : (0 : Int) ≤ (k : Int) := by omega
  have hk1' : (k : Int) < (k + 1 : Nat) := by omega
  have hrow := World.rowIs_made w (.int .i64 0) R1.length 3
  have kf := hrow.frozen i
  have kc := hrow.cell hi1
  have Hrow := Lib.hid hrow
  clear hrow
  go_enter Try.func14, Try.ntmps14
  go_wp2_with fail
  obtain ⟨wd, hwd⟩ : ∃ x, x = w.alloc (.cells (madeCells #[.int .i64 0] R1.length) 3) := ⟨_, rfl⟩
  have hcd : Chg [] w wd := by rw [hwd]; exact (Chg.refl [] w).alloc _
  have hszd : wd.heap.size = w.heap.size + 1 := by rw [hwd]; simp
  rw [← hwd]
  rw [← hwd] at kf kc Hrow
  clear hwd hmk'
  have c0d := (hcd.cell (p := ⟨b, 0, none⟩) lb (by simp)).trans c0
  have c1d := (hcd.cell (p := ⟨b, 1, none⟩) lb (by simp)).trans c1
  have qid := (hcd.cell (p := ⟨gR, offR + i, none⟩) lgR (by simp)).trans qi
  have q1d := (hcd.cell (p := ⟨g2, off2 + k * 2, none⟩) lg2 (by simp)).trans q1
  have q2d := (hcd.cell (p := ⟨g2, off2 + k * 2 + 1, none⟩) lg2 (by simp)).trans q2
  have ld : w.heap.size < wd.heap.size := lt_of_cell kc
  have lbd : b < wd.heap.size := lt_of_cell c0d
  have lRd : gR < wd.heap.size := lt_of_cell qid
  have l2d : g2 < wd.heap.size := lt_of_cell q1d
  have Hcd := Lib.hid hcd
  have Hszd := Lib.hid hszd
  have Hold := Lib.hid (And.intro c0 (And.intro c1 (And.intro qi (And.intro q1 q2))))
  clear hcd hszd c0 c1 qi q1 q2
  go_region_held3 (fun w' => w'.cell? ⟨b, 0, none⟩ = some (.slice (some ⟨gR, offR, none⟩) R1.length capv) ∧ w'.cell? ⟨b, 1, none⟩ = some (.slice (some ⟨gs, 0, none⟩) R1.length R1.length) ∧ w'.cell? ⟨gR, offR + i, none⟩ = some (.slice (some ⟨g2, off2, none⟩) (k + 1) capu) ∧ w'.cell? ⟨g2, off2 + k * 2, none⟩ = some (.int .i64 r.1) ∧ w'.cell? ⟨g2, off2 + k * 2 + 1, none⟩ = some (.slice ui r.2.length capi))
    (first | (go_keep; done) | (refine ⟨?_, ?_, ?_, ?_, ?_⟩ <;> (simp [go_sem, *]; done)) | (refine ⟨?_, ?_, ?_, ?_, ?_⟩ <;> (rw [hc5.cell (by simp; omega) (by simp)]; simp [go_sem, *]; done)))
    ((go_at_call 23; refine (derive_any _ _ r _ _ S1 ((SlF.kept Hints.out Hcd.out.drew (by simp)).imp (q := fun _ => True) (fun _ _ => trivial)) ((SlF.kept Hnums.out Hcd.out.drew (by simp)).imp (fun _ _ => trivial)) Hrr.out.1.1 Hrr.out.1.2 (by rw [HlS1.out]; exact Hrr.out.2) H.out.lst.bd).mono ?_; rintro e w5 ⟨rfl, hc5⟩; unfold nv; have kc5 := (hc5.cell (p := ⟨w.heap.size, i, none⟩) ld (by simp)).trans kc; have kf5 := (hc5.frozen (p := ⟨w.heap.size, i, none⟩) ld (by simp)).trans kf; have ld5 := lt_of_cell kc5))
  have hst : DlOut R1 S1 i r w.heap.size wd (lack ((List.replicate R1.length 0).set i (der S1 r)) + 1) true (w5.setCell ⟨w.heap.size, i, none⟩ (nv (der S1 r))) ((List.replicate R1.length 0).set i (der S1 r)) := by
    refine ⟨by simp, fun x hx => ?_, ?_, ?_, ?_, Nat.le_refl _, fun e => by cases e⟩
    · rcases List.mem_or_eq_of_mem_set hx with hx | rfl
      · rw [List.eq_of_mem_replicate hx]; unfold univ; omega
      · exact hder
    · rw [getD_set _ i _ (by simpa using hi1), if_pos rfl]; exact sub_refl _
    · refine ((Hrow.out.of_block (hc5.block _ ld (by simp))).set i _).congr (fun j hj => ?_)
      rw [getD_set _ i _ (by simpa using hi1), getD_zeros]
      split <;> rfl
    · exact ((Chg.refl [_] wd).drew.new hc5).setCell (Or.inl (by simp)) _
  unfold nv at hst
  have Hst := Lib.hid hst
  clear hst hc5 kc5 kf5 kc kf
  go_wp2_with fail
  go_loopg [8] (lack ((List.replicate R1.length 0).set i (der S1 r)) + 1) (fun kk pv wr => ∃ pb D, pv = .bool pb ∧ DlOut R1 S1 i r w.heap.size wd kk pb wr D)
  case atStart => exact ⟨true, _, rfl, Hst.out⟩
  case round =>
    obtain ⟨pb, D, rfl, ho⟩ := hrel
    have hco := ho.chg
    have hxd : ∀ g, g < w.heap.size → g ∉ [w.heap.size] := fun g hg => by simp; omega
    have c0r := (hco.cell (p := ⟨b, 0, none⟩) lbd (hxd b lb)).trans c0d
    have c1r := (hco.cell (p := ⟨b, 1, none⟩) lbd (hxd b lb)).trans c1d
    have Ho := Lib.hid ho
    have Hxd := Lib.hid hxd
    clear ho hxd Hst
    cases pb with
    | false =>
      have hcw : Chg [w.heap.size] w wr := (Hcd.out.nil).trans hco
      have hgsw : gs < w.heap.size := H.out.row.lt
      have lbr := lt_of_cell c0r
      obtain ⟨w4, hw4⟩ : ∃ x, x = wr := ⟨_, rfl⟩
      rw [← hw4] at c0r c1r lbr Ho hco hcw
      rw [← hw4]
      clear hw4
      have f0r : w4.frozen? ⟨b, 0, none⟩ = false := (hcw.frozen (p := ⟨b, 0, none⟩) lb (Hxd.out b lb)).trans H.out.f0
      have hrs := H.out.row.of_block (hcw.block gs hgsw (Hxd.out gs hgsw))
      have Hrs := Lib.hid hrs
      have Hcw := Lib.hid hcw
      have lgd := Ho.out.row.lt
      have hbg := H.out.ne
      clear hrs hco hcw
      go_wp2_with fail
      go_loopw [125] (fun iv wr2 => ∃ m : Nat, m ≤ R1.length ∧ iv = .int .i64 (m : Nat) ∧ wr2.rowIs gs 3 R1.length (fun j => nv (if j < m then andN (S1.getD j 0) (D.getD j 0) else S1.getD j 0)) ∧ Chg [gs] w4 wr2) (fun iv _ => R1.length - (intOf iv).toNat)
      case atStart => exact ⟨0, by omega, rfl, Hrs.out.congr (fun j hj => by simp), Chg.refl _ _⟩
      case round =>
        obtain ⟨m, hm, rfl, hrow, hcx⟩ := hrel
        have hnb : b ∉ [gs] := by simpa using hbg
        have c0x := (hcx.cell (p := ⟨b, 0, none⟩) lbr hnb).trans c0r
        have c1x := (hcx.cell (p := ⟨b, 1, none⟩) lbr hnb).trans c1r
        have f0x := (hcx.frozen (p := ⟨b, 0, none⟩) lbr hnb).trans f0r
        have lbx := lt_of_cell c0x
        clear c0r c1r f0r
        by_cases hlt : m < R1.length
        · have qs := hrow.cell hlt
          have fs := hrow.frozen m
          rw [if_neg (Nat.lt_irrefl _)] at qs
          have hrd := Ho.out.row.of_block (hcx.block _ lgd (by simp; omega))
          have qd := hrd.cell hlt
          have lgs := lt_of_cell qs
          have lgdr := lt_of_cell qd
          have hsx := getD_univ H.out.lst.bd m
          have hdx := getD_univ Ho.out.bd m
          obtain ⟨sx, hsxe⟩ : ∃ y, S1.getD m 0 = y := ⟨_, rfl⟩
          obtain ⟨dx, hdxe⟩ : ∃ y, D.getD m 0 = y := ⟨_, rfl⟩
          rw [hsxe] at qs hsx
          rw [hdxe] at qd hdx
          unfold nv at qs qd
          unfold univ at hsx hdx
          have handn : bits .andNot .i64 (sx : Int) (dx : Int) = ((andN sx dx : Nat) : Int) := i64_andNot_nat _ _ (by omega) (by omega)
          have hnext := (hrow.set m (nv (andN sx dx))).congr (g := fun j => nv (if j < m + 1 then andN (S1.getD j 0) (D.getD j 0) else S1.getD j 0)) (fun j hj => by
            by_cases e : j = m
            · subst e; rw [if_pos rfl, if_pos (by omega), hsxe, hdxe]
            · rw [if_neg e]
              by_cases e2 : j < m
              · rw [if_pos e2, if_pos (by omega)]
              · rw [if_neg e2, if_neg (by omega)])
          have Hnext := Lib.hid hnext
          have Hcx := Lib.hid hcx
          clear hrow hcx hrd hnext hsxe hdxe
          have hm1 : (m : Int) < R1.length := by omega
          have hm0 : (0 : Int) ≤ (m : Int) := by omega
          clear c0x f0x
          go_wp2_with fail
          go_region
          go_wp2_with fail
          exact ⟨⟨m + 1, by omega, by go_num, Hnext.out.of_block rfl, (Hcx.out.drew).setCell (Or.inl (by simp)) _⟩, by simp [intOf]; omega⟩
        · obtain rfl : m = R1.length := by omega
          have hrow' := hrow.congr (g := fun j => nv ((rest S1 D).getD j 0)) (fun j hj => by rw [if_pos hj, rest_getD])
          have Hrow' := Lib.hid hrow'
          have Hcx := Lib.hid hcx
          clear hrow hrow' hcx
          have hRx := (Hru.out.kept Hcw.out (by simp)).kept Hcx.out (by simp)
          have HRx := Lib.hid hRx
          obtain ⟨w9, hw9⟩ : ∃ x, x = wr := ⟨_, rfl⟩
          rw [← hw9] at c0x c1x f0x lbx Hrow' Hcx HRx
          rw [← hw9]
          clear hRx hw9
          go_wp2_with fail
          refine (cloneRules_any _ _ R1 _ HRx.out H.out.ok).mono ?_
          rintro e w10 ⟨V, us, rfl, h10, c10⟩
          have kc10 := (c10.cell (p := ⟨b, 0, none⟩) lbx (by simp)).trans c0x
          have k110 := (c10.cell (p := ⟨b, 1, none⟩) lbx (by simp)).trans c1x
          have kf10 := (c10.frozen (p := ⟨b, 0, none⟩) lbx (by simp)).trans f0x
          have lb10 : b < w10.heap.size := lt_of_cell kc10
          obtain ⟨gr, hgr⟩ : ∃ x, x = w9.heap.size := ⟨_, rfl⟩
          rw [← hgr] at h10
          rw [← hgr]
          have hblt : b < gr := by omega
          have h11 := h10.kept (w' := w10.setCell ⟨b, 0, none⟩ (.slice (some ⟨gr, 0, none⟩) R1.length R1.length)) ((Chg.refl [b] w10).setCell (Or.inl (by simp)) _) (by simpa using hblt)
          obtain ⟨w11, hw11⟩ : ∃ x, x = w10.setCell ⟨b, 0, none⟩ (.slice (some ⟨gr, 0, none⟩) R1.length R1.length) := ⟨_, rfl⟩
          have c011 : w11.cell? ⟨b, 0, none⟩ = some (.slice (some ⟨gr, 0, none⟩) R1.length R1.length) := by rw [hw11]; exact World.cell?_setCell_same' _ _ _ (by rw [kc10]; rfl)
          have c111 : w11.cell? ⟨b, 1, none⟩ = some (.slice (some ⟨gs, 0, none⟩) R1.length R1.length) := by rw [hw11, World.cell?_setCell_other _ _ _ _ (by simp)]; exact k110
          have f011 : w11.frozen? ⟨b, 0, none⟩ = false := by rw [hw11, World.frozen?_setCell]; exact kf10
          have hc11 : Chg [b] w9 w11 := by rw [hw11]; exact (c10.nil).setCell (Or.inl (by simp)) _
          rw [← hw11] at h11
          have Hw11 := Lib.hid hw11
          have hui : (us i).length = k + 1 := by rw [h11.len i hi1]; exact Hpl.out.2.2.2.2.1
          have hown := h11.own i hi1
          have hrc := h11.row.cell hi1
          have hrf := h11.row.frozen i
          have lgr11 := h11.row.lt
          obtain ⟨g, capg, cur, hVi, hgge, hgheap, hkc, hcm, hcs, _⟩ : ∃ g cap cur, V i = .slice (some ⟨g, 0, none⟩) (us i).length cap ∧ gr + 1 ≤ g ∧ w11.heap[g]? = some (.cells cur 31 (0, 0)) ∧ (us i).length ≤ cap ∧ cap ≤ maxLen ∧ cur.size = cap * 2 ∧ cur.toList.take ((us i).length * 2) = flatP (us i) := by
            rcases hown.2 with ⟨_, h0⟩ | h
            · omega
            · exact h
          rw [hui] at hVi hkc
          rw [hVi] at hrc
          have H11 := Lib.hid h11
          have HVi := Lib.hid hVi
          have Hgh := Lib.hid hgheap
          have Hc11 := Lib.hid hc11
          have Hgr := Lib.hid hgr
          have Hcm := Lib.hid hcm
          have Hcs := Lib.hid hcs
          have lg11 := lt_of_obj hgheap
          clear h10 c10 hown h11 hVi hgheap hc11 hgr hui hcm hcs hw11
          go_wp2_with fail
          rw [← Hw11.out]
          have hdel := delete_any w11.drew g k capg cur Hgh.out hkc Hcm.out (by rw [Hcs.out]; omega)
          have Hdel := Lib.hid hdel
          clear hdel
          have hbg' : b ≠ g := by omega
          have hgrg : gr ≠ g := by omega
          have hwr : IntKind.i64.wrap ((k : Int) + 1) = (k : Int) + 1 := IntWalk.i64_in _ (by omega)
          go_region_law (rw [if_pos (by simp [Region.wanted])]; go_simp; (with_reducible refine (Hdel.out).mono ?_); rintro e w12 ⟨rfl, c12, hcell12⟩; have c012 : w12.cell? ⟨b, 0, none⟩ = some (.slice (some ⟨gr, 0, none⟩) R1.length R1.length) := (c12.cell (p := ⟨b, 0, none⟩) (lt_of_cell c011) (by simpa using hbg')).trans c011; have k12 : w12.cell? ⟨gr, i, none⟩ = some (.slice (some ⟨g, 0, none⟩) (k + 1) capg) := (c12.cell (p := ⟨gr, i, none⟩) lgr11 (by simpa using hgrg)).trans hrc; have f12 : w12.frozen? ⟨gr, i, none⟩ = false := (c12.frozen (p := ⟨gr, i, none⟩) lgr11 (by simpa using hgrg)).trans hrf; have lgr12 := lt_of_cell k12; have C12 := Lib.hid c12; have Hcell12 := Lib.hid hcell12; clear c12 hcell12)
          all_goals
            clear hwr
            go_wp2_with fail
            obtain ⟨w13, hw13⟩ : ∃ x, x = w12.setCell ⟨gr, i, none⟩ (.slice (some ⟨g, 0, none⟩) k capg) := ⟨_, rfl⟩
            rw [← hw13]
            have hcut : RulesAt (fun x => gr ≤ x ∧ x < w13.heap.size) w13 (.slice (some ⟨gr, 0, none⟩) R1.length R1.length) R := by
              obtain ⟨hR1, hlen1, _, hk, _, _, _⟩ := Hpl.out
              have h11 := H11.out.kept ((Chg.refl [] w11).drew) (by simp)
              rw [hlen1]
              have hok1 := H.out.ok
              rw [hlen1] at h11
              rw [hR1] at h11 hok1
              rw [hw13]
              have := ClV.cut hi hok1 h11 HVi.out hk C12.out Hcell12.out
              exact this.imp (fun x hx => by simpa using hx)
            have hch : Chg [b, gs] w w13 := by
              rw [hw13]
              have e1 : Chg [b, gs] w w4 := (Chg.refl [b, gs] w).comp Hcw.out (fun x hx => Or.inr (by simp at hx; omega))
              have e2 : Chg [b, gs] w w9 := e1.comp Hcx.out (fun x hx => Or.inl (by simp at hx; simp [hx]))
              have e3 : Chg [b, gs] w w11 := e2.comp Hc11.out (fun x hx => Or.inl (by simp at hx; simp [hx]))
              have e4 : Chg [b, gs] w w12 := e3.drew.comp C12.out (fun x hx => Or.inr (by simp at hx; have := Hcw.out.size; have := Hcx.out.size; have := Hgr.out; omega))
              exact e4.setCell (Or.inr (by have := Hcw.out.size; have := Hcx.out.size; have := Hgr.out; show w.heap.size ≤ gr; omega)) _
            have c013 : w13.cell? ⟨b, 0, none⟩ = some (.slice (some ⟨gr, 0, none⟩) R1.length R1.length) := by rw [hw13, World.cell?_setCell_other _ _ _ _ (by simp <;> omega)]; exact c012
            have c113 : w13.cell? ⟨b, 1, none⟩ = some (.slice (some ⟨gs, 0, none⟩) R1.length R1.length) := by rw [hw13, World.cell?_setCell_other _ _ _ _ (by simp <;> omega)]; exact (C12.out.cell (p := ⟨b, 1, none⟩) (lt_of_cell c111) (by simpa using hbg')).trans c111
            have f013 : w13.frozen? ⟨b, 0, none⟩ = false := by rw [hw13, World.frozen?_setCell]; exact (C12.out.frozen (p := ⟨b, 0, none⟩) (lt_of_cell c011) (by simpa using hbg')).trans f011
            have hrow13 : w13.rowIs gs 3 R1.length (fun j => nv ((rest S1 D).getD j 0)) := by
              have lgs9 := Hrow'.out.lt
              have hs11 := Hc11.out.size
              have hgr9 := Hgr.out
              have e1 := Hrow'.out.of_block (Hc11.out.block gs lgs9 (by simpa using Ne.symm hbg))
              have e2 := e1.of_block (C12.out.block gs (by show gs < w11.heap.size; omega) (by simp; omega))
              rw [hw13]
              exact e2.of_block (heap_setCell_ne _ _ _ _ (by show gs ≠ gr; omega))
            have lb13 : b < w13.heap.size := lt_of_cell c013
            have hgrw : w.heap.size ≤ gr := by have := Hcw.out.size; have := Hcx.out.size; have := Hgr.out; omega
            have Hcut := Lib.hid hcut
            have Hch := Lib.hid hch
            have Hrow13 := Lib.hid hrow13
            clear hcut hch hrow13 hw13 c011 c111 f011 c012 k12 f12 hrc hrf kc10 k110 kf10 c0x c1x f0x
            go_region_held3 (fun w' => w'.cell? ⟨b, 0, none⟩ = some (.slice (some ⟨gr, 0, none⟩) R1.length R1.length) ∧ w'.cell? ⟨b, 1, none⟩ = some (.slice (some ⟨gs, 0, none⟩) R1.length R1.length))
              (first | (go_keep; done) | (refine ⟨?_, ?_⟩ <;> (simp [go_sem, *]; done)) | (exact ⟨hk15, hl15⟩) | (refine ⟨?_, ?_⟩ <;> (rw [hc14.cell (by simp; omega) (by simp)]; simp [go_sem, *]; done)))
              (first
                | (go_at_call 20; refine (indices_any _ R1.length hn60).mono ?_; rintro e w14 ⟨vq, rfl, hq14, hc14⟩; have Hq14 := Lib.hid (And.intro hq14 hc14); clear hq14)
                | (go_at_call 19; refine (rem_prop Hpl.out.1 H.out hi Hpl.out.2.2.2.2.2.1 Hpl.out.2.2.2.2.2.2 (Ho.out.del rfl) Ho.out.bd Hpl.out.2.1 Hcut.out hgrw c013 c113 f013 Hrow13.out Hch.out ((Chg.refl [] w13).drew.trans Hq14.out.2) Hq14.out.1).mono ?_; rintro e w15 ⟨rfl, hsol, hch15, hk15, hl15⟩; have Hfin := Lib.hid (And.intro hsol hch15); clear hsol hch15))
            go_wp2_with fail
            go_ret
            exact ⟨rfl, Hfin.out.1, Hfin.out.2⟩
    | true =>
      clear hco
      go_wp2_with fail
      go_loopw [8, 74] (fun pv iv wr2 => ∃ (a : Nat) (pb : Bool) (D' : List Nat), a ≤ R1.length ∧ pv = .bool pb ∧ iv = .int .i64 (a : Nat) ∧ DlRel R1 S1 D i r w.heap.size wd a 0 0 pb wr2 D') (fun _ iv _ => R1.length - (intOf iv).toNat)
      case atStart => exact ⟨0, false, D, by omega, rfl, rfl, DlRel.start Ho.out⟩
      case round =>
        obtain ⟨a, pb, D', ha, rfl, rfl, hrl⟩ := hrel
        clear c0r c1r
        by_cases hlt : a < R1.length
        · have hcw : Chg [w.heap.size] w wr := (Hcd.out.nil).trans hrl.chg
          obtain ⟨g5, off5, u5, e5, q5, hl5⟩ := (Hru.out.kept hcw (by simp)).at a hlt
          simp only [Option.some.injEq, Addr.mk.injEq, and_true] at e5
          obtain ⟨rfl, rfl⟩ := e5
          obtain ⟨a5, cap5, rfl, hml⟩ := hl5.shape
          have lg5 := lt_of_cell q5
          have hokl := H.out.ok.okl a hlt
          obtain ⟨l, hle⟩ : ∃ l, R1.getD a [] = l := ⟨_, rfl⟩
          have hl5w := (Hru.out.at a hlt)
          rw [hle] at q5 hml hl5 hokl
          have Hl5 := Lib.hid hl5
          have Hle := Lib.hid hle
          have Hokl := Lib.hid hokl
          have Hrl := Lib.hid hrl
          clear hl5 hle hokl hrl hl5w
          have ha1 : (a : Int) < R1.length := by omega
          have ha0 : (0 : Int) ≤ (a : Int) := by omega
          unfold maxLen at hml
          obtain ⟨w7, rfl⟩ : ∃ x, x = wr := ⟨_, rfl⟩
          go_wp2_with fail
          go_loopw [8, 81] (fun pv jv wr2 => ∃ (k2 : Nat) (pb : Bool) (D' : List Nat), k2 ≤ l.length ∧ pv = .bool pb ∧ jv = .int .i64 (k2 : Nat) ∧ DlRel R1 S1 D i r w.heap.size wd a k2 0 pb wr2 D' ∧ Chg [w.heap.size] w7 wr2) (fun _ jv _ => l.length - (intOf jv).toNat)
          case atStart => exact ⟨0, pb, D', by omega, rfl, rfl, Hrl.out, Chg.refl _ _⟩
          case round =>
            obtain ⟨k2, pb2, D2, hk2, rfl, rfl, hrl, hc7⟩ := hrel
            by_cases hlt2 : k2 < l.length
            · obtain ⟨g6, off6, u6, e6, q6, q7, hints⟩ := (Hl5.out.kept hc7 (by simp)).at k2 hlt2
              subst e6
              have lg6 := lt_of_cell q6
              obtain ⟨a7, cap7, rfl⟩ := SlF.shape hints
              have hml7 := SlF.len hints
              have hidx := Hokl.out.idx _ (getD_memb' hlt2 (d := (0, [])))
              have hmask := Hokl.out.mask _ (getD_memb' hlt2 (d := (0, [])))
              obtain ⟨x, hx⟩ : ∃ x, l.getD k2 (0, []) = x := ⟨_, rfl⟩
              rw [hx] at q6 q7 hints hml7 hidx hmask
              have Hints7 := Lib.hid hints
              have Hx := Lib.hid hx
              have Hm7 := Lib.hid (And.intro hmask hidx)
              have Hrl := Lib.hid hrl
              have Hc7 := Lib.hid hc7
              have hder7 : der S1 x ≤ 1048575 := der_univ hmask.2 S1
              clear hints hx hmask hidx hrl hc7
              have hk21 : (k2 : Int) < l.length := by omega
              have hk20 : (0 : Int) ≤ (k2 : Int) := by omega
              unfold maxLen at hml7
              obtain ⟨w8, rfl⟩ : ∃ x, x = wr := ⟨_, rfl⟩
              have lgd8 := Hrl.out.row.lt
              go_wp2_with fail
              obtain ⟨wb, hwb⟩ : ∃ y, y = w8.alloc (.cells #[.int .i64 x.1, .slice a7 x.2.length cap7] 31) := ⟨_, rfl⟩
              have s1 : wb.cell? ⟨w8.heap.size, 0, none⟩ = some (.int .i64 x.1) := by rw [hwb]; exact cell_of_heap (heap_at _ _ _ rfl) rfl
              have s2 : wb.cell? ⟨w8.heap.size, 1, none⟩ = some (.slice a7 x.2.length cap7) := by rw [hwb]; exact cell_of_heap (heap_at _ _ _ rfl) rfl
              have hcb : Chg [] w8 wb := by rw [hwb]; exact (Chg.refl [] w8).alloc _
              rw [← hwb]
              have Hcb := Lib.hid hcb
              have lbx : w8.heap.size < wb.heap.size := lt_of_cell s1
              clear hwb hcb
              go_loopw [8, 88] (fun pv mv wr2 => ∃ (m : Nat) (pb : Bool) (D' : List Nat), m ≤ x.2.length ∧ pv = .bool pb ∧ mv = .int .i64 (m : Nat) ∧ DlRel R1 S1 D i r w.heap.size wd a k2 m pb wr2 D' ∧ Chg [w.heap.size] wb wr2) (fun _ mv _ => x.2.length - (intOf mv).toNat)
              case atStart => exact ⟨0, pb2, D2, by omega, rfl, rfl, Hrl.out.to Hcb.out, Chg.refl _ _⟩
              case round =>
                obtain ⟨m, pb3, D3, hm, rfl, rfl, hrl, hcx⟩ := hrel
                by_cases hlt3 : m < x.2.length
                · have hnb : w8.heap.size ∉ [w.heap.size] := by simp; omega
                  have t1 := (hcx.cell (p := ⟨w8.heap.size, 0, none⟩) lbx hnb).trans s1
                  have t2 := (hcx.cell (p := ⟨w8.heap.size, 1, none⟩) lbx hnb).trans s2
                  have lbr := lt_of_cell t1
                  have c1r := (hrl.chg.cell (p := ⟨b, 1, none⟩) lbd (Hxd.out b lb)).trans c1d
                  have lbr2 := lt_of_cell c1r
                  have hin3 : Ints (fun g => B ≤ g ∧ g < w.heap.size ∧ g ≠ b ∧ g ≠ gs) wr (.slice a7 x.2.length cap7) x.2 := SlF.kept Hints7.out ((Hcb.out.nil).trans hcx) (by simp)
                  have hin3' := hin3
                  obtain ⟨a', cap', hv', _, _, hcell⟩ := hin3
                  simp only [Value.slice.injEq] at hv'
                  obtain ⟨rfl, _, rfl⟩ := hv'
                  obtain ⟨g8, off8, rfl, _, hcell⟩ := hcell (by omega)
                  have q8 : wr.cell? ⟨g8, off8 + m, none⟩ = some (.int .i64 (x.2.getD m 0)) := hcell m hlt3
                  have lg8 := lt_of_cell q8
                  obtain ⟨c, hc, hcR⟩ : ∃ c : Nat, x.2.getD m 0 = (c : Int) ∧ c < R1.length := by
                    obtain ⟨h1, h2⟩ := Hm7.out.2 _ (getD_memb' hlt3 (d := 0))
                    obtain ⟨j, hj⟩ := Int.eq_ofNat_of_zero_le h1
                    exact ⟨j, hj, by omega⟩
                  rw [hc] at q8
                  have qc := hrl.row.cell hcR
                  have qa := hrl.row.cell hlt
                  have fa := hrl.row.frozen a
                  have lgr := hrl.row.lt
                  have hdj := getD_univ hrl.ps.bd c
                  have hda := getD_univ hrl.ps.bd a
                  obtain ⟨dj, hdje⟩ : ∃ y, D3.getD c 0 = y := ⟨_, rfl⟩
                  obtain ⟨da, hdae⟩ : ∃ y, D3.getD a 0 = y := ⟨_, rfl⟩
                  obtain ⟨de, hdee⟩ : ∃ y, der S1 x = y := ⟨_, rfl⟩
                  rw [hdje] at qc hdj
                  rw [hdae] at qa hda
                  have hde : de ≤ 1048575 := by rw [← hdee]; exact hder7
                  unfold univ at hdj hda
                  unfold nv at qc qa
                  have hea : de &&& dj ≤ 1048575 := Nat.le_trans Nat.and_le_left hde
                  have hand : bits .and .i64 (de : Int) (dj : Int) = ((de &&& dj : Nat) : Int) := i64_and_nat _ _ (by omega) (by omega)
                  obtain ⟨ea, heae⟩ : ∃ y, de &&& dj = y := ⟨_, rfl⟩
                  rw [heae] at hand hea
                  have handn : bits .andNot .i64 (ea : Int) (da : Int) = ((andN ea da : Nat) : Int) := i64_andNot_nat _ _ (by omega) (by omega)
                  have hmr : andN ea da ≤ 1048575 := Nat.le_trans andN_le hea
                  obtain ⟨mr, hmre⟩ : ∃ y, andN ea da = y := ⟨_, rfl⟩
                  rw [hmre] at handn hmr
                  have hor : bits .or .i64 (da : Int) (mr : Int) = ((da ||| mr : Nat) : Int) := i64_or_nat _ _ (by omega) (by omega)
                  have Hrl := Lib.hid hrl
                  have Hc := Lib.hid (And.intro hc (And.intro hdje (And.intro hdae (And.intro hdee (And.intro heae hmre)))))
                  have Hcx := Lib.hid hcx
                  have Hin3 := Lib.hid hin3'
                  have Hnum3 := Lib.hid (SlF.kept (SlF.kept Hnums.out Hcd.out (by simp)) hrl.chg (fun g hg e => by
                    have := H.out.row.lt
                    simp at hg
                    omega))
                  clear hrl hc hdje hdae hdee heae hmre hcx hin3' hcell
                  have hm1 : (m : Int) < x.2.length := by omega
                  have hm0 : (0 : Int) ≤ (m : Int) := by omega
                  have hcR1 : (c : Int) < R1.length := by omega
                  have hc0 : (0 : Int) ≤ (c : Int) := by omega
                  have ha1 : (a : Int) < R1.length := by omega
                  have ha0 : (0 : Int) ≤ (a : Int) := by omega
                  go_wp2_with fail
                  go_region_held3 (fun w' => w'.cell? ⟨b, 1, none⟩ = some (.slice (some ⟨gs, 0, none⟩) R1.length R1.length) ∧ w'.cell? ⟨w8.heap.size, 0, none⟩ = some (.int .i64 x.1) ∧ w'.cell? ⟨w8.heap.size, 1, none⟩ = some (.slice (some ⟨g8, off8, none⟩) x.2.length cap7) ∧ w'.cell? ⟨w.heap.size, c, none⟩ = some (.int .i64 (dj : Int)) ∧ w'.cell? ⟨w.heap.size, a, none⟩ = some (.int .i64 (da : Int)))
                    (first | (go_keep; done) | (refine ⟨?_, ?_, ?_, ?_, ?_⟩ <;> (simp [go_sem, *]; done)) | (refine ⟨?_, ?_, ?_, ?_, ?_⟩ <;> (rw [hc9.cell (by simp; omega) (by simp)]; simp [go_sem, *]; done)))
                    ((go_at_call 23; refine (derive_any _ _ x _ _ S1 ((SlF.kept Hin3.out ((Chg.refl [] wr).drew) (by simp)).imp (q := fun _ => True) (fun _ _ => trivial)) ((SlF.kept Hnum3.out ((Chg.refl [] wr).drew) (by simp)).imp (fun _ _ => trivial)) Hm7.out.1.1 Hm7.out.1.2 (by rw [HlS1.out]; exact Hm7.out.2) H.out.lst.bd).mono ?_; rintro e w9 ⟨rfl, hc9⟩; unfold nv; rw [Hc.out.2.2.2.1]; have kc9 := (hc9.cell (p := ⟨w.heap.size, a, none⟩) lgr (by simp)).trans qa; have kf9 := (hc9.frozen (p := ⟨w.heap.size, a, none⟩) lgr (by simp)).trans fa; have ld9 := lt_of_cell kc9))
                  by_cases hz : mr = 0
                  · have hb : (((mr : Nat) : Int) != 0) = false := by subst hz; rfl
                    have hsub : sub (der S1 x &&& D3.getD c 0) (D3.getD a 0) := by
                      obtain ⟨_, h2, h3, h4, h5, h6⟩ := Hc.out
                      rw [h2, h3, h4, h5]
                      refine (andN_zero (by omega) (by omega)).1 ?_
                      rw [h6]; exact hz
                    have Hsub := Lib.hid hsub
                    have Hc9 := Lib.hid hc9
                    clear hsub hz hc9
                    go_wp2_with fail
                    exact ⟨⟨m + 1, pb3, D3, by omega, rfl, by go_num, Hrl.out.next ((Chg.refl [] wr).drew.trans Hc9.out) (by rw [Hle.out, Hx.out]) hlt3 (by rw [Hc.out.1]; rfl) Hsub.out, Hcx.out.new ((Chg.refl [] wr).drew.trans Hc9.out)⟩, by simp [intOf]; omega⟩
                  · have hb : (((mr : Nat) : Int) != 0) = true := by rw [bne_iff_ne]; omega
                    have hnsub : ¬ sub ea (D3.getD a 0) := by
                      obtain ⟨_, h2, h3, h4, h5, h6⟩ := Hc.out
                      rw [h3]
                      intro hs
                      have := (andN_zero (a := ea) (b := da) (by omega) (by omega)).2 hs
                      omega
                    have hgrow := Hrl.out.grow (e := ea) (mr := da ||| mr) ((Chg.refl [] wr).drew.trans hc9) hlt (by unfold univ; omega) hnsub (by
                      obtain ⟨_, h2, h3, h4, h5, h6⟩ := Hc.out
                      rw [h3, ← h6]
                      exact (more_or (by unfold univ; omega) (by unfold univ; omega)).symm)
                    unfold nv at hgrow
                    have Hgrow := Lib.hid hgrow
                    have Hc9 := Lib.hid hc9
                    clear hnsub hgrow hz hc9
                    go_wp2_with fail
                    exact ⟨⟨m + 1, true, _, by omega, rfl, by go_num, Hgrow.out, (Hcx.out.new ((Chg.refl [] wr).drew.trans Hc9.out)).setCell (Or.inl (by simp)) _⟩, by simp [intOf]; omega⟩
                · obtain rfl : m = x.2.length := by omega
                  have Hrl := Lib.hid hrl
                  have Hcx := Lib.hid hcx
                  clear hrl hcx
                  go_wp2
                  exact ⟨⟨k2 + 1, pb3, D3, by omega, rfl, by go_num, Hrl.out.rule (by rw [Hle.out]; exact hlt2) (by rw [Hle.out, Hx.out]; exact Nat.le_refl _), (Hc7.out.trans (Hcb.out.nil)).trans Hcx.out⟩, by simp [intOf]; omega⟩
            · obtain rfl : k2 = l.length := by omega
              have Hrl := Lib.hid hrl
              clear hrl
              go_wp2
              exact ⟨⟨a + 1, pb2, D2, by omega, rfl, by go_num, Hrl.out.set (by rw [Hle.out]; exact Nat.le_refl _)⟩, by simp [intOf]; omega⟩
        · obtain rfl : a = R1.length := by omega
          have Hrl := Lib.hid hrl
          clear hrl
          go_wp2_with fail
          go_roundg (if pb then lack D' + 1 else 0)
          case measure =>
            have h1 := Ho.out.meas
            have h2 := Hrl.out.ps.yes
            cases pb with
            | true => have := h2 rfl; simp at h1 ⊢; omega
            | false => simp at h1 ⊢; omega
          case rel => exact ⟨pb, D', rfl, Hrl.out.fin⟩
end Go.Proofs.Ytaciceaipmclgaa
