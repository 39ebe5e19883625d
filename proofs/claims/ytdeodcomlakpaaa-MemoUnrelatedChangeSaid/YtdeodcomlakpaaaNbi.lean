/- MemoUnrelatedChange: the law's walk. -/
import Derived.Test.YtdeodcomlakpaaaNbg
import Derived.Test.YtdeodcomlakpaaaNbh
import Derived.Test.YtdeodcomlakpaaaNbe
import Derived.Test.YtdeodcomlakpaaaNfb
namespace Go.Proofs.Ytdeodcomlakpaaa
open Go.RowKit Go.ChangeMaps Go.MapKept
set_option linter.unusedVariables false
set_option linter.unusedSimpArgs false
/-- a database's answer, while nothing is forgotten -/
def GotQ (p : Prg) (wb : World) (b gi n q : Nat) (w : World) (d : Dm) (ins : List Int) (e : Ending) (w' : World) : Prop :=
  ∃ d' a c r, e = .returned (.tuple #[.agg #[.slice a 1 c, .string ⟨#[]⟩], .int .i64 0]) ∧ Inp.Ints w' (.slice a 1 c) [val p ins q] ∧ RunM p wb b gi w' d' ins ∧ RunQ p (n + 1) d'.pl ins ∧ Fresh p d'.pl ins q r ∧ After b w w' d d'
theorem RunM.getQ {p : Prg} {wb : World} {b gi n q : Nat} {w : World} {d : Dm} {ins : List Int} (hp : PrgOk p) (hM : RunM p wb b gi w d ins) (hR : RunQ p n d.pl ins) (hn : n ≤ 1000) (hq : q < p.qs.length) :
    Calls Try.prog 19 #[.pointer (some ⟨b, 0, none⟩), i3v (1, (q : Int), 0)] w (GotQ p wb b gi n q w d ins) := by
  refine (hM.db.get hp q hq).mono ?_
  rintro e w' ⟨d', hd, hpl, ha, hm⟩
  obtain ⟨s', r, h1, h2, h3, h4⟩ := hR.got hp hn hq
  rw [h1] at hpl hm
  simp only [h2, h3.xs] at hm
  obtain ⟨a, c, rfl, hi⟩ := hm
  refine ⟨d', a, c, r, rfl, hi, hM.after hd ha, ?_, ?_, ha⟩
  · rw [hpl]; exact h4
  · rw [hpl]; exact h3
def GotX (p : Prg) (wb : World) (b gi : Nat) (x c0 : Int) (w : World) (d : Dm) (ins : List Int) (e : Ending) (w' : World) : Prop :=
  ∃ d' a c, e = .returned (.tuple #[.agg #[.slice a 1 c, .string ⟨#[]⟩], .int .i64 0]) ∧ Inp.Ints w' (.slice a 1 c) [x] ∧ RunM p wb b gi w' d' ins ∧ After b w w' d d' ∧ d'.cnt = c0
theorem RunM.getX {p : Prg} {wb : World} {b gi q : Nat} {w : World} {d : Dm} {ins : List Int} {x c0 : Int} (hp : PrgOk p) (hM : RunM p wb b gi w d ins) (hq : q < p.qs.length)
    (hu : ∃ s' r', upQ p (fun _ => false) d.pl (qk q) = (.ok (), s') ∧ s'.res (qk q) = r' ∧ r'.xs = [x] ∧ s'.cnt = c0) :
    Calls Try.prog 19 #[.pointer (some ⟨b, 0, none⟩), i3v (1, (q : Int), 0)] w (GotX p wb b gi x c0 w d ins) := by
  refine (hM.db.get hp q hq).mono ?_
  rintro e w' ⟨d', hd, hpl, ha, hm⟩
  obtain ⟨s', r, h1, h2, h3, h4⟩ := hu
  rw [h1] at hpl hm
  simp only [h2, h3] at hm
  obtain ⟨a, c, rfl, hi⟩ := hm
  refine ⟨d', a, c, rfl, hi, hM.after hd ha, ha, ?_⟩
  have : d'.pl.cnt = s'.cnt := by rw [hpl]; rfl
  exact this.trans h4
set_option maxRecDepth 100000 in
set_option maxHeartbeats 16000000 in
theorem unrelLaw_any (p0 : Nat → Prop) (w : World) (inp : Int) (qs : List (List QO)) (ss : List I3) (q i0 nn : Int) (qv sv : Value) (hq : I3ss p0 w qv qs) (hs : I3s p0 w sv ss) (hp0 : ∀ k, p0 k → k < w.heap.size) :
    Calls Try.prog 4 #[.agg #[.int .i64 inp, qv], sv, .int .i64 q, .int .i64 i0, .int .i64 nn] w fun e w' => e = .returned (.bool true) ∧ Chg [] w w' := by
  obtain ⟨av, capv, rfl, hlm, hlc⟩ := hq.shape
  have Hq := Lib.hid hq
  obtain ⟨sa, sc, rfl, hml, hmc⟩ := hs.shape
  have Hs := Lib.hid hs
  have Hp0 := Lib.hid hp0
  have hc0 : Chg [] w (w.alloc (.cells #[.int .i64 inp, .slice av qs.length capv] 42)) := (Chg.refl [] w).alloc _
  have Hc0 := Lib.hid hc0
  clear hq hs hp0 hc0
  unfold maxLen at hlm
  go_enter Try.func4, Try.ntmps4
  go_wp2_with fail
  refine (memoExample_any _).mono ?_
  rintro e w1 ⟨rfl, c1⟩
  have m0 : w1.cell? ⟨w.heap.size, 0, none⟩ = some (.int .i64 inp) := (c1.cell (p := ⟨w.heap.size, 0, none⟩) (by simp) (by simp)).trans (cell_of_heap (heap_at _ _ _ rfl) rfl)
  have m1 : w1.cell? ⟨w.heap.size, 1, none⟩ = some (.slice av qs.length capv) := (c1.cell (p := ⟨w.heap.size, 1, none⟩) (by simp) (by simp)).trans (cell_of_heap (heap_at _ _ _ rfl) rfl)
  have lm := lt_of_cell m0
  have Hc1 := Lib.hid (Hc0.out.trans c1)
  clear c1
  go_wp2_with fail
  refine (usable_any (fun g => g < w1.heap.size) _ inp qs _ (Hq.out.old Hp0.out Hc1.out)).mono ?_
  rintro e w2 ⟨b, rfl, hb, c2⟩
  have n0 := (c2.cell (p := ⟨w.heap.size, 0, none⟩) lm (by simp)).trans m0
  have n1 := (c2.cell (p := ⟨w.heap.size, 1, none⟩) lm (by simp)).trans m1
  have ln := lt_of_cell n0
  have Hc2 := Lib.hid (Hc1.out.trans c2)
  clear c2 m0 m1 lm
  cases b with
  | false =>
    clear hb
    go_wp2_with fail
    refine (memoExample_any _).mono ?_
    rintro e w3 ⟨rfl, c3⟩
    go_wp2
    go_ret
    exact ⟨rfl, Hc2.out.trans c3⟩
  | true =>
    obtain ⟨hok, hl0, hi0⟩ := hb.1 rfl
    clear hb
    obtain ⟨N, rfl⟩ := Int.eq_ofNat_of_zero_le hok.inp.1
    have hN := hok.inp.2
    have hL := hok.size
    simp only at hN hL
    obtain ⟨qn, hqn, hmq⟩ := modN q qs.length (by omega) (by omega)
    obtain ⟨jn, hjn, hmi⟩ := modN i0 N (by omega) (by omega)
    have Hmq := Lib.hid hmq
    have Hmi := Lib.hid hmi
    have Hok := Lib.hid hok
    have Hn := Lib.hid (And.intro ln (And.intro n0 n1))
    clear hmq hmi hok
    go_wp2_with fail
    refine (compile_any _ w2 N qs _ (Hq.out.old Hp0.out Hc2.out) Hok.out).mono ?_
    rintro e w3 ⟨bv, bq, qv', rfl, hm3, hc3⟩
    have n0 := (hc3.cell (p := ⟨w.heap.size, 0, none⟩) ln (by simp)).trans n0
    have n1 := (hc3.cell (p := ⟨w.heap.size, 1, none⟩) ln (by simp)).trans n1
    have ln := lt_of_cell n0
    have Hm3 := Lib.hid hm3
    have Hc3 := Lib.hid hc3
    clear hm3 hc3
    go_wp2_with fail
    refine (memoNew_any _ _ w3).mono ?_
    rintro e w4 ⟨b, d, rfl, hd, hpl, hcomp, hstop, hc4, hn4⟩
    have hdb : DbF ⟨(N : Int), qs⟩ w2 b w4 d := ⟨_, _, _, _, _, DbQ.make Hm3.out (fun g hg => hg.2) hd hpl hcomp hstop hc4 hn4, Hc3.out.trans hc4, fun g hg => Nat.le_trans Hc3.out.size (hn4 g (List.mem_append_left _ hg)), fun g hg => Nat.lt_of_lt_of_le hg.2 (hn4 b (List.mem_append_left _ (by simp [Dm.muts])))⟩
    have n0 := (hc4.cell (p := ⟨w.heap.size, 0, none⟩) ln (by simp)).trans n0
    have n1 := (hc4.cell (p := ⟨w.heap.size, 1, none⟩) ln (by simp)).trans n1
    have ln := lt_of_cell n0
    have Hdb := Lib.hid hdb
    have Hpl := Lib.hid hpl
    clear hd hpl hcomp hstop hc4 hn4 hdb
    have hdb := Hdb.out
    have lm : w.heap.size < w4.heap.size := lt_of_cell n0
    have hmk := run_make_row' (P := Try.prog) 29 3 (.int .i64 0) 8 Try.underlying29 Try.infoIntQ rfl .i64 .i64 N (by omega) (by omega)
    have hmk' := hmk w4
    have hcur : madeCells #[.int .i64 0] N = (List.replicate N (Value.int .i64 0)).toArray := by
      apply Array.ext
      · simp [madeCells]
      · intro i h1 h2
        simp [madeCells, Nat.mod_one]
    obtain ⟨w5, hw5⟩ : ∃ x, x = w4.alloc (.cells (madeCells #[.int .i64 0] N) 3) := ⟨_, rfl⟩
    have hg5 : w5.heap[w4.heap.size]? = some (.cells (List.replicate N (Value.int .i64 0)).toArray 3 (0, 0)) := by rw [hw5, ← hcur]; exact heap_at _ _ _ rfl
    have hc5 : Chg [] w4 w5 := by rw [hw5]; exact (Chg.refl [] w4).alloc _
    obtain ⟨gf, hgf⟩ : ∃ x, x = w4.heap.size := ⟨_, rfl⟩
    have hM5 : RunM ⟨(N : Int), qs⟩ w2 b gf w5 d (List.replicate N 0) := by
      rw [hgf]
      exact ⟨hdb.new hc5, by simp, by rw [hg5]; simp, fun hm => by have := hdb.mem.lt _ hm; omega, fun hm => by have := hdb.mem.bound _ hm; omega, hdb.mem.lt b (by simp [Dm.muts]), hdb.chg.size⟩
    have hR5 : RunQ ⟨(N : Int), qs⟩ 0 d.pl (List.replicate N 0) := by
      rw [Hpl.out]
      exact RunQ.empty ⟨(N : Int), qs⟩
    have q0 := (hc5.cell (p := ⟨w.heap.size, 0, none⟩) lm (by simp)).trans n0
    have q1 := (hc5.cell (p := ⟨w.heap.size, 1, none⟩) lm (by simp)).trans n1
    have lq : w.heap.size < w5.heap.size := lt_of_cell q0
    have HM5 := Lib.hid hM5
    have HR5 := Lib.hid hR5
    have hsw := I3s.kept (S := fun _ => False) Hs.out ((Hc2.out.trans hM5.db.chg).p) (fun _ _ h => h)
    obtain ⟨kk, hkk⟩ : ∃ kk : Nat, min (ss.length : Int) 20 = kk := ⟨(min (ss.length : Int) 20).toNat, by omega⟩
    have hks : kk ≤ ss.length := by omega
    have hk20 : kk ≤ 20 := by omega
    have hksc : (kk : Int) ≤ sc := by omega
    clear hdb Hdb Hpl hmk hcur hg5 hc5 hM5 hR5 hsw
    go_wp2_with fail
    rw [← hw5, ← hgf]
    clear hw5 hgf hmk' n0 n1 ln lm
    go_loopw [41] (fun jj wr => ∃ (k : Nat) (d' : Dm) (row' : List Int), k ≤ kk ∧ jj = .int .i64 (k : Nat) ∧ row'.length = N ∧ RunM ⟨(N : Int), qs⟩ w2 b gf wr d' row' ∧ RunQ ⟨(N : Int), qs⟩ (2 * k) d'.pl row') (fun jj _ => kk - (intOf jj).toNat)
    case atStart => exact ⟨0, d, List.replicate N 0, by omega, rfl, by simp, HM5.out, HR5.out⟩
    case round =>
      obtain ⟨k, d', row', hk, rfl, hrl, hM, hR⟩ := hrel
      have HM := Lib.hid hM
      have HR := Lib.hid hR
      have Hrl := Lib.hid hrl
      have m0 := (hM.db.chg.cell (p := ⟨w.heap.size, 0, none⟩) Hn.out.1 (by simp)).trans Hn.out.2.1
      have m1 := (hM.db.chg.cell (p := ⟨w.heap.size, 1, none⟩) Hn.out.1 (by simp)).trans Hn.out.2.2
      have lm := lt_of_cell m0
      by_cases hlt : k < kk
      · have hk1 : (k : Int) < kk := by omega
        have hi := I3s.kept Hs.out ((Hc2.out.trans hM.db.chg).p (S := fun _ => False)) (fun _ _ h => h)
        obtain ⟨g, off, rfl, hgp, r0, r1, r2⟩ := SlR.at hi k (by omega) (0, 0, 0)
        obtain ⟨xd, hxd⟩ : ∃ x, x = (ss.getD k (0, 0, 0)).1 := ⟨_, rfl⟩
        obtain ⟨xa, hxa⟩ : ∃ x, x = (ss.getD k (0, 0, 0)).2.1 := ⟨_, rfl⟩
        obtain ⟨xb, hxb⟩ : ∃ x, x = (ss.getD k (0, 0, 0)).2.2 := ⟨_, rfl⟩
        rw [← hxd] at r0
        rw [← hxa] at r1
        rw [← hxb] at r2
        have lg : g < wr.heap.size := lt_of_cell r0
        clear hxd hxa hxb hi hgp hM hR hrl
        obtain ⟨w3, hw3⟩ : ∃ x, x = wr.alloc (.cells #[.int .i64 xd, .int .i64 xa, .int .i64 xb] 47) := ⟨_, rfl⟩
        have c3 : Chg [] wr w3 := by rw [hw3]; exact (Chg.refl [] wr).alloc _
        have hs3 : Box b w3 d' wr.heap.size (.cells #[.int .i64 xd, .int .i64 xa, .int .i64 xb] 47 (0, 0)) := by rw [hw3]; exact Box.make HM.out.db.mem _ _
        have s0 : w3.cell? ⟨wr.heap.size, 0, none⟩ = some (.int .i64 xd) := cell_of_heap hs3.blk rfl
        have s1 : w3.cell? ⟨wr.heap.size, 1, none⟩ = some (.int .i64 xa) := cell_of_heap hs3.blk rfl
        have s2 : w3.cell? ⟨wr.heap.size, 2, none⟩ = some (.int .i64 xb) := cell_of_heap hs3.blk rfl
        have HS := Lib.hid hs3
        have HM3 := Lib.hid (HM.out.new c3)
        obtain ⟨pn, hpn, hmp⟩ := modN xb qs.length (by omega) (by omega)
        obtain ⟨jn, hjn, hmj⟩ := modN xa N (by omega) (by omega)
        have Hmp := Lib.hid hmp
        have Hmj := Lib.hid hmj
        have Hpn := Lib.hid hpn
        have hjl : jn < row'.length := by have := Hrl.out; omega
        have hjn1 : (jn : Int) < (N : Int) := by omega
        have Hjl := Lib.hid hjl
        have M0 := (c3.cell (p := ⟨w.heap.size, 0, none⟩) lm (by simp)).trans m0
        have M1 := (c3.cell (p := ⟨w.heap.size, 1, none⟩) lm (by simp)).trans m1
        have LM := lt_of_cell M0
        have LS := lt_of_cell s0
        have G0 := HM3.out.cell Hjl.out
        have G1 := HM3.out.frozen jn
        have lgi := HM3.out.lt
        have hgs : ¬ (wr.heap.size = gf) := fun e => by have := HM.out.lt; omega
        clear hmp hmj hs3 hjl c3
        go_wp2_with fail
        rw [← hw3]
        clear hw3 r0 r1 r2 lg m0 m1 lm
        refine (Hmj.out _).mono ?_
        rintro e w' ⟨rfl, hww⟩
        rw [← hww]
        clear hww
        go_wp2_with fail
        refine (mod_any xb 4 _ (by decide) (by decide)).mono ?_
        rintro e w' ⟨rfl, rfl⟩
        obtain ⟨y, hy⟩ : ∃ y, y = modI xb 4 := ⟨_, rfl⟩
        rw [← hy]
        clear hy
        go_wp2_with fail
        obtain ⟨w7, hw7⟩ : ∃ x, x = w3.setCell ⟨gf, jn, none⟩ (.int .i64 y) := ⟨_, rfl⟩
        rw [← hw7]
        have hM7 := HM3.out.store jn y
        have hch : ChgP (fun g => g = gf) w3 (w3.setCell ⟨gf, jn, none⟩ (.int .i64 y)) := (ChgP.refl (fun g => g = gf) w3).setCell (p := ⟨gf, jn, none⟩) (Or.inl rfl) _
        rw [← hw7] at hM7 hch
        have HS7 := Lib.hid (show Box b w7 d' wr.heap.size (.cells #[.int .i64 xd, .int .i64 xa, .int .i64 xb] 47 (0, 0)) from ⟨(hch.block _ (lt_of_obj HS.out.blk) hgs).trans HS.out.blk, HS.out.off⟩)
        have HM7 := Lib.hid hM7
        have S0 : w7.cell? ⟨wr.heap.size, 0, none⟩ = some (.int .i64 xd) := cell_of_heap HS7.out.blk rfl
        have G0 : w7.cell? ⟨gf, jn, none⟩ = some (.int .i64 y) := by
          have h := hM7.cell (i := jn) (by rw [List.length_set]; exact Hjl.out)
          rw [getD_setI _ _ _ Hjl.out, if_pos rfl] at h
          exact h
        have LS7 := lt_of_cell S0
        have LG7 := lt_of_cell G0
        clear hw7 hM7 hch hgs lgi G1 s0 s1 s2 LS M0 M1 LM
        go_region_held3 (fun w' => w'.cell? ⟨gf, jn, none⟩ = some (.int .i64 y) ∧ w'.cell? ⟨wr.heap.size, 0, none⟩ = some (.int .i64 xd))
          (first | (go_keep; done) | (exact kS10) | (exact kS9) | (exact kS8))
          (first
            | (go_at_call 25; refine (inputKey_any _ _).mono ?_; rintro e w8 ⟨rfl, c8⟩; have H8 := Lib.hid (((Chg.refl [] w7).drew).trans c8); have kS8 : w8.cell? ⟨gf, jn, none⟩ = some (.int .i64 y) ∧ w8.cell? ⟨wr.heap.size, 0, none⟩ = some (.int .i64 xd) := ⟨(H8.out.cell (p := ⟨gf, jn, none⟩) LG7 (by simp)).trans G0, (H8.out.cell (p := ⟨wr.heap.size, 0, none⟩) LS7 (by simp)).trans S0⟩; clear c8)
            | (go_at_call 18; refine (number_any _ _).mono ?_; rintro e w9 ⟨a9, c9, rfl, hi9, cc9⟩; have H9 := Lib.hid (H8.out.trans cc9); have Hi9 := Lib.hid hi9; have kS9 : w9.cell? ⟨gf, jn, none⟩ = some (.int .i64 y) ∧ w9.cell? ⟨wr.heap.size, 0, none⟩ = some (.int .i64 xd) := ⟨(H9.out.cell (p := ⟨gf, jn, none⟩) LG7 (by simp)).trans G0, (H9.out.cell (p := ⟨wr.heap.size, 0, none⟩) LS7 (by simp)).trans S0⟩; clear cc9 hi9)
            | (go_at_call 15; refine (mod_any xd 3 _ (by decide) (by decide)).mono ?_; rintro e w' ⟨rfl, rfl⟩)
            | (go_at_call 24; refine ((HM7.out.db.new H9.out).set (0, (jn : Int), 0) _ [y] (modI xd 3) (keyInOk (inp := (N : Int)) (idx := 0) (Or.inl ⟨rfl, by simp, hjn1, rfl⟩) (by omega) (by omega)) rfl Hi9.out (by simp) (modI_bd xd 3 (by decide)) (by have := HR.out.run.rev; omega)).mono ?_; rintro e w10 ⟨d10, hd10, hpl10, ha10, rfl⟩; have hM10 := (HM7.out.new H9.out).after hd10 ha10; have kS10 : w10.cell? ⟨gf, jn, none⟩ = some (.int .i64 y) ∧ w10.cell? ⟨wr.heap.size, 0, none⟩ = some (.int .i64 xd) := ⟨(by have h := hM10.cell (i := jn) (by rw [List.length_set]; exact Hjl.out); rw [getD_setI _ _ _ Hjl.out, if_pos rfl] at h; exact h), cell_of_heap ((HS7.out.new H9.out).after ha10).blk rfl⟩; have H10 := Lib.hid (And.intro hM10 (And.intro (show RunQ ⟨(N : Int), qs⟩ (2 * k + 1) d10.pl (row'.set jn y) by rw [hpl10]; exact (HR.out.set jn y (modI xd 3) hjn1 (by rw [Hrl.out]) (modI_bd xd 3 (by decide)))) ((HS7.out.new H9.out).after ha10))); clear hd10 hpl10 ha10 hM10))
        all_goals
          have S2 : w10.cell? ⟨wr.heap.size, 2, none⟩ = some (.int .i64 xb) := cell_of_heap H10.out.2.2.blk rfl
          have M0 := (H10.out.1.db.chg.cell (p := ⟨w.heap.size, 0, none⟩) Hn.out.1 (by simp)).trans Hn.out.2.1
          have M1 := (H10.out.1.db.chg.cell (p := ⟨w.heap.size, 1, none⟩) Hn.out.1 (by simp)).trans Hn.out.2.2
          have LM := lt_of_cell M0
          have LS := lt_of_cell S2
          clear G0 LG7 S0 LS7 kS10
          go_wp2_with fail
          refine (Hmp.out _).mono ?_
          rintro e w' ⟨rfl, hww⟩
          rw [← hww]
          clear hww
          go_wp2_with fail
          refine (queryKey_any _ _).mono ?_
          rintro e w11 ⟨rfl, c11⟩
          have HM11 := Lib.hid (H10.out.1.new c11)
          clear c11 S2 LS M0 M1 LM
          go_wp2_with fail
          refine (HM11.out.getQ Hok.out H10.out.2.1 (by omega) Hpn.out).mono ?_
          rintro e w12 ⟨d12, a12, c12, r12, rfl, hi12, hM12, hR12, hf12, ha12⟩
          have H12 := Lib.hid (And.intro hM12 hR12)
          clear hi12 hM12 hR12 hf12 ha12
          go_wp2_with fail
          go_roundw
          case rel => exact ⟨k + 1, d12, row'.set jn y, by omega, by go_num, by rw [List.length_set]; exact Hrl.out, H12.out.1, H12.out.2⟩
          case measure => simp only [intOf]; omega
      · obtain rfl : k = kk := by omega
        have hk1 : ¬ ((k : Int) < k) := by omega
        clear hM hR hrl
        go_wp2_with fail
        go_region_held3 (fun w' => w'.cell? ⟨w.heap.size, 0, none⟩ = some (.int .i64 (N : Int)) ∧ w'.cell? ⟨w.heap.size, 1, none⟩ = some (.slice av qs.length capv))
          (first | (go_keep; done))
          (first
            | (go_at_call 15; with_reducible refine (Hmq.out _).mono ?_; rintro e w' ⟨rfl, rfl⟩)
            | (go_at_call 15; with_reducible refine (Hmi.out _).mono ?_; rintro e w' ⟨rfl, rfl⟩))
        all_goals
          have cd : Chg [] wr wr.drew := (Chg.refl [] wr).drew
          obtain ⟨w6, hw6⟩ : ∃ x, x = wr.drew := ⟨_, rfl⟩
          rw [← hw6] at cd ⊢
          clear hw6 m0 m1 lm
          have HM6 := Lib.hid (HM.out.new cd)
          clear cd
          go_wp2_with fail
          refine (queryKey_any _ _).mono ?_
          rintro e w7 ⟨rfl, c7⟩
          have HM7 := Lib.hid (HM6.out.new c7)
          clear c7
          go_wp2_with fail
          refine (HM7.out.getQ Hok.out HR.out (by omega) hqn).mono ?_
          rintro e w8 ⟨d8, a8, c8, r8, rfl, hi8, hM8, hR8, hf8, ha8⟩
          obtain ⟨w9, hw9⟩ : ∃ x, x = w8.alloc (.cells #[.slice a8 1 c8, .string ⟨#[]⟩] 31) := ⟨_, rfl⟩
          have c9 : Chg [] w8 w9 := by rw [hw9]; exact (Chg.refl [] w8).alloc _
          have hb9 : Box b w9 d8 w8.heap.size (.cells #[.slice a8 1 c8, .string ⟨#[]⟩] 31 (0, 0)) := by rw [hw9]; exact Box.make hM8.db.mem _ _
          have HM9 := Lib.hid (hM8.new c9)
          have HB9 := Lib.hid hb9
          have HI9 := Lib.hid (hi8.same c9)
          have HR8 := Lib.hid hR8
          have HF8 := Lib.hid hf8
          have n0 := (hM8.db.chg.cell (p := ⟨w.heap.size, 0, none⟩) Hn.out.1 (by simp)).trans Hn.out.2.1
          have n1 := (hM8.db.chg.cell (p := ⟨w.heap.size, 1, none⟩) Hn.out.1 (by simp)).trans Hn.out.2.2
          have ln := lt_of_cell n0
          clear hi8 hM8 hR8 hf8 ha8 c9 hb9
          go_wp2_with fail
          rw [← hw9]
          clear hw9 n0 n1 ln
          have hin9 := HM9.out.ints Hok.out
          rw [Hrl.out] at hin9
          refine (influences_any (fun g => g < w9.heap.size) _ ⟨N, qs⟩ row' qn jn _ _ (Hq.out.old Hp0.out (Hc2.out.trans HM9.out.db.chg)) hin9 (fun k hk => hk) ⟨Hok.out, by rw [Hrl.out], by omega, by simp only; omega⟩ (by omega)).mono ?_
          rintro e w10 ⟨bi, rfl, hbi, c10⟩
          have HM10 := Lib.hid (HM9.out.new c10)
          have HB10 := Lib.hid (HB9.out.new c10)
          have HI10 := Lib.hid (HI9.out.same c10)
          clear hin9 c10
          cases bi with
          | true =>
            clear hbi
            go_wp2_with fail
            refine (memoExample_any _).mono ?_
            rintro e w11 ⟨rfl, c11⟩
            have HM11 := Lib.hid (HM10.out.new c11)
            clear c11
            go_wp2_with fail
            go_ret
            exact ⟨rfl, Hc2.out.trans HM11.out.db.chg⟩
          | false =>
            have hqt := HR8.out.quiet Hok.out (by omega) hqn HF8.out jn nn (modI nn 3) (by show (jn : Int) < (N : Int); omega) (by rw [Hrl.out]) (modI_bd nn 3 (by decide)) (hbi rfl)
            have Hqt := Lib.hid hqt
            clear hqt hbi
            go_wp2_with fail
            refine (computations_any _ b d8 HM10.out.db.mem).mono ?_
            rintro e w' ⟨rfl, hww⟩
            rw [hww]
            clear hww
            go_wp2_with fail
            refine (inputKey_any _ _).mono ?_
            rintro e w11 ⟨rfl, c11⟩
            have HM11 := Lib.hid (HM10.out.new c11)
            have HB11 := Lib.hid (HB10.out.new c11)
            have HI11 := Lib.hid (HI10.out.same c11)
            clear c11
            go_wp2_with fail
            refine (number_any _ _).mono ?_
            rintro e w12 ⟨a12, c12, rfl, hi12, cc12⟩
            have HM12 := Lib.hid (HM11.out.new cc12)
            have HB12 := Lib.hid (HB11.out.new cc12)
            have HI12 := Lib.hid (HI11.out.same cc12)
            have Hi12 := Lib.hid hi12
            clear cc12 hi12
            go_wp2_with fail
            refine (mod_any nn 3 _ (by decide) (by decide)).mono ?_
            rintro e w' ⟨rfl, hww⟩
            rw [← hww]
            clear hww
            go_wp2_with fail
            have hjn1 : (jn : Int) < (N : Int) := by omega
            refine (HM12.out.db.set (0, (jn : Int), 0) _ [nn] (modI nn 3) (keyInOk (inp := (N : Int)) (idx := 0) (Or.inl ⟨rfl, by simp, hjn1, rfl⟩) (by omega) (by omega)) rfl Hi12.out (by simp) (modI_bd nn 3 (by decide)) (by have := HR8.out.run.rev; omega)).mono ?_
            rintro e w13 ⟨d13, hd13, hpl13, ha13, rfl⟩
            have HM13 := Lib.hid (HM12.out.after hd13 ha13)
            have HB13 := Lib.hid (HB12.out.after ha13)
            have HI13 := Lib.hid (ha13.ints HM12.out.db.mem HI12.out)
            have Hpl13 := Lib.hid hpl13
            clear hd13 hpl13 ha13
            go_wp2_with fail
            refine (queryKey_any _ _).mono ?_
            rintro e w14 ⟨rfl, c14⟩
            have HM14 := Lib.hid (HM13.out.new c14)
            have HB14 := Lib.hid (HB13.out.new c14)
            have HI14 := Lib.hid (HI13.out.same c14)
            clear c14
            go_wp2_with fail
            refine (HM14.out.getX Hok.out hqn (by rw [Hpl13.out]; exact Hqt.out)).mono ?_
            rintro e w15 ⟨d15, a15, c15, rfl, hi15, hM15, ha15, hcn15⟩
            obtain ⟨w16, hw16⟩ : ∃ x, x = w15.alloc (.cells #[.slice a15 1 c15, .string ⟨#[]⟩] 31) := ⟨_, rfl⟩
            have c16 : Chg [] w15 w16 := by rw [hw16]; exact (Chg.refl [] w15).alloc _
            have hb16 : Box b w16 d15 w15.heap.size (.cells #[.slice a15 1 c15, .string ⟨#[]⟩] 31 (0, 0)) := by rw [hw16]; exact Box.make hM15.db.mem _ _
            have HB16 := Lib.hid (And.intro ((HB14.out.after ha15).new c16) hb16)
            have HI16 := Lib.hid (And.intro ((ha15.ints HM14.out.db.mem HI14.out).same c16) (hi15.same c16))
            have HM16 := Lib.hid (hM15.new c16)
            have Hcn := Lib.hid hcn15
            clear hi15 hM15 ha15 c16 hb16 hcn15
            go_wp2_with fail
            rw [← hw16]
            clear hw16
            refine (memoExample_any _).mono ?_
            rintro e w17 ⟨rfl, c17⟩
            have HM17 := Lib.hid (HM16.out.new c17)
            have HI17 := Lib.hid (And.intro (HI16.out.1.same c17) (HI16.out.2.same c17))
            have hb1 := HB16.out.1.new c17
            have hb2 := HB16.out.2.new c17
            have v0 : w17.cell? ⟨w8.heap.size, 0, none⟩ = some (.slice a8 1 c8) := cell_of_heap hb1.blk rfl
            have v1 : w17.cell? ⟨w8.heap.size, 1, none⟩ = some (.string ⟨#[]⟩) := cell_of_heap hb1.blk rfl
            have u0 : w17.cell? ⟨w15.heap.size, 0, none⟩ = some (.slice a15 1 c15) := cell_of_heap hb2.blk rfl
            have u1 : w17.cell? ⟨w15.heap.size, 1, none⟩ = some (.string ⟨#[]⟩) := cell_of_heap hb2.blk rfl
            have lv := lt_of_cell v0
            have lu := lt_of_cell u0
            clear c17 hb1 hb2
            go_wp2_with fail
            refine (equalValues_any _ _ _ _ _ HI17.out.1 HI17.out.2).mono ?_
            rintro e w18 ⟨rfl, c18⟩
            have HM18 := Lib.hid (HM17.out.new c18)
            clear c18 v0 v1 u0 u1 lv lu
            simp only [decide_true]
            go_wp2_with fail
            refine (computations_any _ b d15 HM18.out.db.mem).mono ?_
            rintro e w' ⟨rfl, hww⟩
            rw [hww, Hcn.out]
            clear hww
            have hcc : d8.pl.cnt = d8.cnt := rfl
            rw [hcc]
            go_wp2_with fail
            go_ret
            exact ⟨rfl, Hc2.out.trans HM18.out.db.chg⟩
end Go.Proofs.Ytdeodcomlakpaaa
