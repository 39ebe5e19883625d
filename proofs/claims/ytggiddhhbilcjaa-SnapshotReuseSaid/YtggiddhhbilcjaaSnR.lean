/- result: a stored one, or a new one; for all queries by induction. -/
import Derived.Test.YtggiddhhbilcjaaSnD
namespace Go.Proofs.Ytggiddhhbilcjaa.Sn
open Go.RowKit Go.ChangeMaps Go.MapKept
set_option linter.unusedVariables false
set_option linter.unusedSimpArgs false
theorem find_at {l : List RR} {rev : Int} {n : Nat} (hn : n < l.length) (hp : ∀ r ∈ l.take n, fits rev r = false) (h : fits rev l[n] = true) : l.find? (fits rev) = some l[n] := by
  rw [List.find?_eq_some_iff_getElem]
  refine ⟨h, n, hn, rfl, fun j hj => ?_⟩
  have := hp l[j] (List.mem_take_iff_getElem.2 ⟨j, by omega, rfl⟩)
  simp [this]
theorem find_no {l : List RR} {rev : Int} (hp : ∀ r ∈ l, fits rev r = false) : l.find? (fits rev) = none := by
  rw [List.find?_eq_none]
  intro r hr
  simp [hp r hr]
section
variable {p : Prg} {w0 : World} {RO : Nat → Prop} {be : Nat} {rev : Int}
set_option maxRecDepth 100000 in
set_option maxHeartbeats 4000000 in
theorem result_step (hp : PrgOk p) {bv bq : Nat} {qv : Value} (hm : CompMem RO bv bq qv p.qs w0) {n : Nat} (fam : EvalFam p w0 RO be rev (compV bv bq) n) : EvalFam p w0 RO be rev (compV bv bq) (n + 1) := by
  intro w d av A q hq hqN h hcomp hst hA
  have q4 : w.cell? ⟨be, 0, none⟩ = some (.pointer (some ⟨d.b, 0, none⟩)) := cell_of_heap h.at_.ev rfl
  have q1 : w.cell? ⟨be, 1, none⟩ = some (.int .i64 rev) := cell_of_heap h.at_.ev rfl
  have m4 : w.cell? ⟨d.b, 4, none⟩ = some (.map (some d.br)) := cell_of_heap h.at_.mem.box rfl
  have lbe := lt_of_cell q4
  have ldb := lt_of_cell m4
  have hkok : Inp.QKok (1, (q : Int), 0) := qryKok (qk_lt hqN) (by have := hp.size; omega)
  obtain ⟨wa, hwa⟩ : ∃ x, x = w.alloc (.cells #[.int .i64 1, .int .i64 (q : Int), .int .i64 0] 43) := ⟨_, rfl⟩
  have hca : Chg [] w wa := by rw [hwa]; exact (Chg.refl [] w).alloc _
  have hkb : wa.heap[w.heap.size]? = some (.cells #[.int .i64 1, .int .i64 (q : Int), .int .i64 0] 43 (0, 0)) := by rw [hwa]; exact heap_at _ _ _ rfl
  obtain ⟨va, vcap, hgv⟩ := ownsRow_shape (h.at_.mem.R.row (1, (q : Int), 0))
  have hrow := ptrs_of_own (h.at_.mem.R.row (1, (q : Int), 0))
  obtain ⟨l, hl⟩ : ∃ l, l = gL d.RL (1, (q : Int), 0) := ⟨_, rfl⟩
  rw [← hl] at hgv hrow
  rw [hgv] at hrow
  obtain ⟨_, _, hsh, hlm, _⟩ := hrow.shape
  unfold maxLen at hlm
  have hplr : d.pl.res (1, (q : Int), 0) = l.map Rs.pl := by rw [hl]; rfl
  have hlk : ∀ n, (Instr.lookup 78 (.map (some d.br)) (.agg #[.int .i64 1, .int .i64 (q : Int), .int .i64 0]) false).run Try.prog (wa.drewN n) = .ok (.slice va l.length vcap) (wa.drewN n) := fun n => by
    have := (h.new (hca.drewN n)).at_.mem.R.look (1, (q : Int), 0) hkok Try.underlying78 zeroRs
    rw [hgv] at this
    exact this
  have c0 : wa.cell? ⟨be, 0, none⟩ = some (.pointer (some ⟨d.b, 0, none⟩)) := (hca.cell lbe (by simp)).trans q4
  have c4 : wa.cell? ⟨d.b, 4, none⟩ = some (.map (some d.br)) := (hca.cell ldb (by simp)).trans m4
  have e0 : wa.cell? ⟨w.heap.size, 0, none⟩ = some (.int .i64 1) := cell_of_heap hkb rfl
  have e1 : wa.cell? ⟨w.heap.size, 1, none⟩ = some (.int .i64 (q : Int)) := cell_of_heap hkb rfl
  have e2 : wa.cell? ⟨w.heap.size, 2, none⟩ = some (.int .i64 0) := cell_of_heap hkb rfl
  have H := Lib.hid h
  have Hl := Lib.hid hl
  have Hrow := Lib.hid hrow
  have Hplr := Lib.hid hplr
  have Hcomp := Lib.hid hcomp
  have Hst := Lib.hid hst
  have HA := Lib.hid hA
  have Hca := Lib.hid hca
  have Hkb := Lib.hid hkb
  clear h hl hrow hplr hcomp hst hA hca hkb hkok hgv hsh
  unfold i3v
  go_enter Try.func36, Try.ntmps36
  go_wp2_with fail
  rw [← hwa]
  clear hwa
  go_quiet (fail)
  obtain ⟨wd, hwd⟩ : ∃ x, x = wa.drewN nq := ⟨_, rfl⟩
  have Hcwd := Lib.hid (show Chg [] wa wd by rw [hwd]; exact (Chg.refl _ _).drewN nq)
  rw [← hwd]
  clear hlk c0 c4 e0 e1 e2 hwd
  go_wp2_with fail
  go_loopw [17] (fun i wr => ∃ n : Nat, n ≤ l.length ∧ i = .int .i64 (n : Nat) ∧ (∀ r ∈ (l.map Rs.pl).take n, fits rev r = false) ∧ Chg [] wa wr) (fun i _ => l.length - (intOf i).toNat)
  case atStart => exact ⟨0, by omega, rfl, by simp, Hcwd.out⟩
  case round =>
    obtain ⟨n', hn, rfl, hnot, hcw⟩ := hrel
    have Hnot := Lib.hid hnot
    have Hcw := Lib.hid hcw
    clear hnot hcw
    by_cases hlt : n' < l.length
    · obtain ⟨r, hr⟩ : ∃ x, l.getD n' ⟨0, 0, 0, none, 0, [], .slice none 0 0, []⟩ = x := ⟨_, rfl⟩
      have hmem : r ∈ l := by rw [← hr]; exact getD_memb hlt _
      have hcall := Hca.out.trans Hcw.out
      obtain ⟨g, off, rfl, _, c0⟩ := SlR.at (SlR.imp (rd' := rdP) (w' := wr) Hrow.out (fun _ h => h) fun ad x _ hr => (hcall.cell (lt_of_cell hr) (by simp)).trans hr) n' hlt ⟨0, 0, 0, none, 0, [], .slice none 0 0, []⟩
      simp only [hr, Nat.mul_one] at c0
      unfold rdP Rs.val at c0
      have hrs := (H.out.new hcall).at_.mem.each (1, (q : Int), 0) r (by rw [← Hl.out]; exact hmem)
      have r0 : wr.cell? ⟨r.blk, 0, none⟩ = some (.int .i64 r.first) := cell_of_heap hrs.blk rfl
      have r1 : wr.cell? ⟨r.blk, 1, none⟩ = some (.int .i64 r.last) := cell_of_heap hrs.blk rfl
      have b1 : wr.cell? ⟨be, 1, none⟩ = some (.int .i64 rev) := (hcall.cell lbe (by simp)).trans q1
      have hgn : (l.map Rs.pl)[n']? = some r.pl := by rw [← hr]; simp [hlt]
      have Hgn := Lib.hid hgn
      have Hmem := Lib.hid hmem
      have Hcall := Lib.hid hcall
      have hn1 : (n' : Int) < l.length := by omega
      have hn0 : (0 : Int) ≤ (n' : Int) := by omega
      have Hnext : fits rev r.pl = false → ∀ r' ∈ (l.map Rs.pl).take (n' + 1), fits rev r' = false := fun hf r' hr' => by
        rw [List.take_add_one, Hgn.out] at hr'
        rcases List.mem_append.1 hr' with h | h
        · exact Hnot.out r' h
        · simp at h; rw [h]; exact hf
      have Hnext := Lib.hid Hnext
      clear hcall hrs hgn hmem hr
      by_cases hf : r.first ≤ rev
      · by_cases hll : rev ≤ r.last
        · have Hfit := Lib.hid (show fits rev r.pl = true from decide_eq_true ⟨hf, hll⟩)
          have d1 : decide (r.first ≤ rev) = true := decide_eq_true hf
          have d2 : decide (rev ≤ r.last) = true := decide_eq_true hll
          go_wp2_with fail
          go_quiet (fail)
          go_wp2_with fail
          go_ret
          have hplen : n' < (l.map Rs.pl).length := by simpa using hlt
          have hg2 : (l.map Rs.pl)[n'] = r.pl := by
            have := Hgn.out
            rw [List.getElem?_eq_getElem hplen] at this
            exact Option.some.inj this
          have hfind := find_at hplen Hnot.out (by rw [hg2]; exact Hfit.out)
          have hRQ : RQ p.qs rev (n + 1) d.pl (1, (q : Int), 0) = (r.pl, d.pl) := by
            show resP p.qs (RQ p.qs rev n) rev d.pl (1, (q : Int), 0) = _
            unfold resP
            rw [Hplr.out, hfind, hg2]
          exact ⟨d, av, r, NextE.new H.out.at_ (Hcall.out.drewN _), by rw [hRQ], by rw [hRQ], by rw [← Hl.out]; exact Hmem.out, rfl⟩
        · have d1 : decide (r.first ≤ rev) = true := decide_eq_true hf
          have d2 : decide (rev ≤ r.last) = false := decide_eq_false hll
          have Hf2 := Lib.hid (Hnext.out (decide_eq_false fun h => hll h.2))
          go_wp2_with fail
          go_quiet (fail)
          go_wp2_with fail
          exact ⟨⟨n' + 1, by omega, by go_num, Hf2.out, Hcw.out.drewN _⟩, by simp [intOf]; omega⟩
      · have d1 : decide (r.first ≤ rev) = false := decide_eq_false hf
        have Hf2 := Lib.hid (Hnext.out (decide_eq_false fun h => hf h.1))
        go_wp2_with fail
        go_quiet (fail)
        go_wp2_with fail
        exact ⟨⟨n' + 1, by omega, by go_num, Hf2.out, Hcw.out.drewN _⟩, by simp [intOf]; omega⟩
    · obtain rfl : n' = l.length := by omega
      have hno : (d.pl.res (1, (q : Int), 0)).find? (fits rev) = none := by
        rw [Hplr.out]
        refine find_no fun r hr => Hnot.out r ?_
        rw [List.take_of_length_le (by simp)]
        exact hr
      have hcall := compute_any hp hm fam (show q ≤ n by omega) hqN wr d av A (H.out.new (Hca.out.trans Hcw.out)) Hcomp.out Hst.out HA.out hno
      have Hno := Lib.hid hno
      have Hcall := Lib.hid hcall
      unfold i3v at Hcall
      have e0 : wr.cell? ⟨w.heap.size, 0, none⟩ = some (.int .i64 1) := cell_of_heap ((Hcw.out.block _ (lt_of_obj Hkb.out) (by simp)).trans Hkb.out) rfl
      have e1 : wr.cell? ⟨w.heap.size, 1, none⟩ = some (.int .i64 (q : Int)) := cell_of_heap ((Hcw.out.block _ (lt_of_obj Hkb.out) (by simp)).trans Hkb.out) rfl
      have e2 : wr.cell? ⟨w.heap.size, 2, none⟩ = some (.int .i64 0) := cell_of_heap ((Hcw.out.block _ (lt_of_obj Hkb.out) (by simp)).trans Hkb.out) rfl
      clear hno hcall
      go_wp2_with fail
      refine Hcall.out.mono ?_
      rintro e w2 ⟨d', av', r, hN, hpl', hrp, hrm, rfl⟩
      have Hend := Lib.hid (And.intro hN (And.intro hpl' (And.intro hrp hrm)))
      clear hN hpl' hrp hrm
      unfold Rs.val
      go_wp2_with fail
      go_ret
      obtain ⟨hN, hpl', hrp, hrm⟩ := Hend.out
      have hRQ : RQ p.qs rev (n + 1) d.pl (1, (q : Int), 0) = compP p.qs (RQ p.qs rev n) rev d.pl (1, (q : Int), 0) := by
        show resP p.qs (RQ p.qs rev n) rev d.pl (1, (q : Int), 0) = _
        unfold resP
        rw [Hno.out]
      exact ⟨d', av', r, NextE.before (Hca.out.trans Hcw.out) hN, by rw [hRQ]; exact hpl', by rw [hRQ]; exact hrp, hrm, rfl⟩
theorem result_all (hp : PrgOk p) {bv bq : Nat} {qv : Value} (hm : CompMem RO bv bq qv p.qs w0) : ∀ n, EvalFam p w0 RO be rev (compV bv bq) n := by
  intro n
  induction n with
  | zero => intro w d av A q hq; omega
  | succ n ih => exact result_step hp hm ih
end
end Go.Proofs.Ytggiddhhbilcjaa.Sn
