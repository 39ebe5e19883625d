/- CancelResume: the law's walk. -/
import Derived.Test.YtdeodcomlakpaaaNbl
import Derived.Test.YtdeodcomlakpaaaNra
namespace Go.Proofs.Ytdeodcomlakpaaa
open Go.RowKit Go.ChangeMaps Go.MapKept
set_option linter.unusedVariables false
set_option linter.unusedSimpArgs false
/-- a database's answer, and where it stands -/
def GotA (p : Prg) (wb : World) (b gi q : Nat) (I : List Int) (H : Hist) (S0 : PS) (w : World) (d : Dm) (ins : List Int) (e : Ending) (w' : World) : Prop :=
  ∃ (d' : Dm) (a : Option Addr) (c : Nat) (D' : List Nat), e = .returned (.tuple #[.agg #[.slice a 1 c, .string ⟨#[]⟩], .int .i64 0]) ∧ Inp.Ints w' (.slice a 1 c) [val p ins q] ∧ DbF p wb b w' d' ∧ Att p I H S0 q D' d'.pl ∧ q ∈ D' ∧ After b w w' d d'
theorem DbF.getA {p : Prg} {wb : World} {b gi n q : Nat} {I : List Int} {H : Hist} {S0 : PS} {w : World} {d : Dm} {ins : List Int} {D : List Nat} (hp : PrgOk p) (hM : DbF p wb b w d) (hR : RunP p n d.pl ins) (hn : n ≤ 1000) (hq : q < p.qs.length) (hI : insH p H S0.rev = I) (hb : Base p I S0) (hA : Att p I H S0 q D d.pl) :
    Calls Try.prog 19 #[.pointer (some ⟨b, 0, none⟩), i3v (1, (q : Int), 0)] w (GotA p wb b gi q I H S0 w d ins) := by
  refine (hM.get hp q hq).mono ?_
  rintro e w' ⟨d', hd, hpl, ha, hm⟩
  obtain ⟨s', r, h1, h2, h3, h4⟩ := hR.got hp hn hq
  obtain ⟨x, t', D', g1, g2, g3, _⟩ := hA.go hp hq hI hb (fun _ => false)
  rw [h1] at hpl hm g1
  simp only [Prod.mk.injEq] at g1
  obtain ⟨rfl, rfl⟩ := g1
  simp only [h2, h3.xs] at hm
  obtain ⟨a, c, rfl, hi⟩ := hm
  refine ⟨d', a, c, D', rfl, hi, hd, by rw [hpl]; exact g2, ?_, ha⟩
  rcases g3 with ⟨_, g⟩ | ⟨_, g⟩
  · exact g
  · simp at g
set_option maxRecDepth 100000 in
set_option maxHeartbeats 16000000 in
theorem resumeLaw_any (p0 : Nat → Prop) (w : World) (inp : Int) (qs : List (List QO)) (ss : List I3) (q l0 : Int) (qv sv : Value) (hq : I3ss p0 w qv qs) (hs : I3s p0 w sv ss) (hp0 : ∀ k, p0 k → k < w.heap.size) :
    Calls Try.prog 13 #[.agg #[.int .i64 inp, qv], sv, .int .i64 q, .int .i64 l0] w fun e w' => e = .returned (.bool true) ∧ Chg [] w w' := by
  obtain ⟨av, capv, rfl, hlm, hlc⟩ := hq.shape
  have Hq := Lib.hid hq
  have Hs := Lib.hid hs
  have Hp0 := Lib.hid hp0
  have hc0 : Chg [] w (w.alloc (.cells #[.int .i64 inp, .slice av qs.length capv] 42)) := (Chg.refl [] w).alloc _
  have Hc0 := Lib.hid hc0
  clear hq hs hp0 hc0
  unfold maxLen at hlm
  go_enter Try.func13, Try.ntmps13
  go_wp2_with fail
  refine (memoExample_any _).mono ?_
  rintro e w1 ⟨rfl, c1⟩
  have m0 : w1.cell? ⟨w.heap.size, 0, none⟩ = some (.int .i64 inp) := (c1.cell (p := ⟨w.heap.size, 0, none⟩) (by simp) (by simp)).trans (cell_of_heap (heap_at _ _ _ rfl) rfl)
  have m1 : w1.cell? ⟨w.heap.size, 1, none⟩ = some (.slice av qs.length capv) := (c1.cell (p := ⟨w.heap.size, 1, none⟩) (by simp) (by simp)).trans (cell_of_heap (heap_at _ _ _ rfl) rfl)
  have lm := lt_of_cell m0
  have Hc1 := Lib.hid (Hc0.out.trans c1)
  clear c1
  go_wp2_with fail
  refine (usable_any (fun g => g < w1.heap.size) _ inp qs _ (Hq.out.old Hp0.out Hc1.out)).mono ?_
  rintro e w2 ⟨b, rfl, hb, c2⟩
  have n0 := (c2.cell (p := ⟨w.heap.size, 0, none⟩) lm (by simp)).trans m0
  have n1 := (c2.cell (p := ⟨w.heap.size, 1, none⟩) lm (by simp)).trans m1
  have ln := lt_of_cell n0
  have Hc2 := Lib.hid (Hc1.out.trans c2)
  clear c2 m0 m1 lm
  cases b with
  | false =>
    clear hb
    go_wp2_with fail
    refine (memoExample_any _).mono ?_
    rintro e w3 ⟨rfl, c3⟩
    go_wp2
    go_ret
    exact ⟨rfl, Hc2.out.trans c3⟩
  | true =>
    obtain ⟨hok, hl0, hi0⟩ := hb.1 rfl
    clear hb
    obtain ⟨N, rfl⟩ := Int.eq_ofNat_of_zero_le hok.inp.1
    have hN := hok.inp.2
    have hL := hok.size
    simp only at hN hL
    obtain ⟨qn, hqn, hmq⟩ := modN q qs.length (by omega) (by omega)
    have Hmq := Lib.hid hmq
    obtain ⟨lmn, hln, hml⟩ := modN l0 5 (by omega) (by omega)
    have Hml := Lib.hid hml
    clear hml
    have Hok := Lib.hid hok
    have Hst := Lib.hid (started_any hok w2 hl0 (by omega) _ _ ss (Hq.out.old Hp0.out Hc2.out) (I3s.imp (I3s.kept (S := fun _ => False) Hs.out Hc2.out.p (fun _ _ h => h)) fun g hg => Nat.lt_of_lt_of_le (Hp0.out g hg) Hc2.out.size))
    clear hmq hok
    go_wp2_with fail
    refine Hst.out.mono ?_
    rintro e w3 ⟨b, gi, d, ins, rfl, hM, hR⟩
    have hil : ins.length = N := by have h : (ins.length : Int) = (N : Int) := hM.len; omega
    rw [hil]
    have Hil := Lib.hid hil
    have Hn := Lib.hid (And.intro ln (And.intro n0 n1))
    have r0 := (hM.db.chg.cell (p := ⟨w.heap.size, 0, none⟩) Hn.out.1 (by simp)).trans Hn.out.2.1
    have r1 := (hM.db.chg.cell (p := ⟨w.heap.size, 1, none⟩) Hn.out.1 (by simp)).trans Hn.out.2.2
    have lr := lt_of_cell r0
    have HM := Lib.hid hM
    have HR := Lib.hid hR
    clear hM hR hil n0 n1 ln Hst
    go_wp2_with fail
    refine (Hmq.out _).mono ?_
    rintro e w' ⟨rfl, hww⟩
    rw [← hww]
    clear hww Hmq
    go_wp2_with fail
    refine (Hml.out _).mono ?_
    rintro e w' ⟨rfl, hww⟩
    rw [← hww]
    clear hww Hml r0 r1 lr
    obtain ⟨H, hI0⟩ := HR.out.inv
    obtain ⟨I, hI⟩ : ∃ I, insH ⟨(N : Int), qs⟩ H d.pl.rev = I := ⟨_, rfl⟩
    have hbase : Base ⟨(N : Int), qs⟩ I d.pl := Base.of hI0 (by have h1 := HR.out.ct; have h2 := HR.out.clk; unfold Ct at h1; omega)
    have HI0 := Lib.hid hI0
    have HI := Lib.hid hI
    have HB := Lib.hid hbase
    clear hI0 hI hbase
    go_wp2_with fail
    obtain ⟨lim, hlim⟩ : ∃ lim : Int, lim = 1 + (lmn : Int) := ⟨_, rfl⟩
    have Hl := Lib.hid (show 1 ≤ lim ∧ lim ≤ 5 by omega)
    rw [← hlim]
    clear hlim
    refine (HM.out.fork Hok.out HR.out).mono ?_
    rintro e w4 ⟨nb, d2, rfl, hM4, hR4, hF4⟩
    have hA4 : Att ⟨(N : Int), qs⟩ I H d.pl qn [] d2.pl := Att.fork HI0.out hF4.same qn
    have HM4 := Lib.hid hM4
    have HR4 := Lib.hid hR4
    have HF4 := Lib.hid hF4
    have HA4 := Lib.hid hA4
    have Hc02 := Lib.hid (show d2.cnt = d.cnt from hF4.same.cnt)
    clear hM4 hR4 hF4 hA4
    go_wp2_with fail
    refine (computations_any _ nb d2 HF4.out.db.mem).mono ?_
    rintro e w' ⟨rfl, hww⟩
    rw [hww]
    clear hww
    go_wp2_with fail
    refine (queryKey_any _ _).mono ?_
    rintro e w7 ⟨rfl, c7⟩
    have HM7 := Lib.hid (HM4.out.new c7)
    have Hdb7 := Lib.hid (HF4.out.db.new c7)
    have Hz7 := Lib.hid (Nat.le_trans HF4.out.chg.size c7.size)
    have Hz47 := Lib.hid c7.size
    clear c7
    go_wp2_with fail
    refine (Hdb7.out.getA (gi := gi) Hok.out HR4.out (by omega) hqn HI.out HB.out HA4.out).mono ?_
    rintro e w8 ⟨d8, a8, c8, D8, rfl, hi8, hd8, hA8, hin8, ha8⟩
    have hap : ∀ g, g ∈ d2.muts nb → g ∉ d.muts b ∧ g ∉ d.imms ∧ gi < g := fun g hg => by
      have h1 := HF4.out.new g hg
      have h2 := HM.out.lt
      exact ⟨fun hm => by have := HM.out.db.mem.lt g hm; omega, fun hm => by have := HM.out.db.mem.bound g hm; omega, by omega⟩
    have hM8 := HM7.out.past ha8.chg hap
    have hap8 : ∀ g, (g ∈ d8.muts nb ∨ g ∈ d8.imms) → g < w8.heap.size ∧ g ∉ d.muts b ∧ g ≠ gi := fun g hg => by
      have hz7 := Hz7.out
      have h2 := HM.out.lt
      have hnew : w3.heap.size ≤ g → g ∉ d.muts b ∧ g ≠ gi := fun hge => ⟨fun hm => by have := HM.out.db.mem.lt g hm; omega, by omega⟩
      rcases hg with hg | hg
      · refine ⟨hd8.mem.lt g hg, ?_⟩
        rcases ha8.muts g hg with hg | hg
        · exact hnew (HF4.out.new g hg)
        · exact hnew (by omega)
      · refine ⟨hd8.mem.bound g hg, ?_⟩
        rcases ha8.imms g hg with hg | hg
        · have h3 := HF4.out.imm g hg
          exact ⟨HM.out.db.mem.apart g h3, fun e => HM.out.offi (e ▸ h3)⟩
        · exact hnew (by omega)
    obtain ⟨w9, hw9⟩ : ∃ x, x = w8.alloc (.cells #[.slice a8 1 c8, .string ⟨#[]⟩] 31) := ⟨_, rfl⟩
    have c9 : Chg [] w8 w9 := by rw [hw9]; exact (Chg.refl [] w8).alloc _
    have HV9 := Lib.hid (show Box b w9 d w8.heap.size (.cells #[.slice a8 1 c8, .string ⟨#[]⟩] 31 (0, 0)) by rw [hw9]; exact Box.make hM8.db.mem _ _)
    have HM9 := Lib.hid (hM8.new c9)
    have HP9 := Lib.hid (hd8.mem.new c9)
    have Hi9 := Lib.hid (hi8.same c9)
    have Hap8 := Lib.hid hap8
    have Hz89 := Lib.hid c9.size
    have HA8 := Lib.hid (And.intro hA8 hin8)
    have hbd8 := hA8.bd Hok.out
    have hc8 : d8.pl.cnt = d8.cnt := rfl
    have hcd : d.pl.cnt = d.cnt := rfl
    rw [hc8, hcd] at hbd8
    have hwr8 : wrap64 (d8.cnt - d2.cnt) = d8.cnt - d.cnt := by rw [Hc02.out]; unfold wrap64; omega
    have Hbd8 := Lib.hid hbd8
    have Hwr8 := Lib.hid hwr8
    clear hi8 hd8 hA8 hin8 ha8 hap hM8 hap8 c9 hbd8 hc8 hcd hwr8
    go_wp2_with fail
    rw [← hw9]
    clear hw9
    refine (computations_any _ nb d8 HP9.out).mono ?_
    rintro e w' ⟨rfl, hww⟩
    rw [hww]
    clear hww
    go_wp2_with fail
    rw [Hwr8.out]
    obtain ⟨nd, hnd⟩ : ∃ nd : Int, nd = d8.cnt - d.cnt := ⟨_, rfl⟩
    rw [← hnd]
    have Hnd := Lib.hid hnd
    clear hnd
    refine (queryKey_any _ _).mono ?_
    rintro e w10 ⟨rfl, c10⟩
    have HM10 := Lib.hid (HM9.out.new c10)
    have HP10 := Lib.hid (HP9.out.new c10)
    have HV10 := Lib.hid (HV9.out.new c10)
    have Hi10 := Lib.hid (Hi9.out.same c10)
    have Hz10 := Lib.hid (Nat.le_trans Hz89.out c10.size)
    clear c10
    go_wp2_with fail
    refine (attempts_any Hok.out HM10.out HR.out (by omega) hqn HI.out HB.out (Att.start HI0.out HR.out.act qn) rfl lim Hl.out).mono ?_
    rintro e w11 ⟨j, d11, D11, rfl, hM11, hR11, hA11, hin11, hj11, hj40, hF11⟩
    have hi11 : Inp.Ints w11 (.slice a8 1 c8) [val ⟨(N : Int), qs⟩ ins qn] := hF11.ints HM10.out.db.mem Hi10.out
    have hP11 : DmAt w11 nb d8 := HP10.out.kept hF11.chg (fun g hg hs => (Hap8.out g (.inl hg)).2.1 hs) (fun g hg hs => (Hap8.out g (.inr hg)).2.1 hs)
    have hap11 : ∀ g, (g ∈ d8.muts nb ∨ g ∈ d8.imms) → g ∉ d11.muts b := fun g hg hm => by
      have h1 := Hap8.out g hg
      have h2 := Hz10.out
      rcases hF11.muts g hm with h | h
      · exact h1.2.1 h
      · omega
    have HM11 := Lib.hid hM11
    have HR11 := Lib.hid hR11
    have HA11 := Lib.hid (And.intro hA11 hin11)
    have Hj11 := Lib.hid (And.intro hj11 hj40)
    have HV11 := Lib.hid (HV10.out.after hF11)
    have Hi11 := Lib.hid hi11
    have HP11 := Lib.hid hP11
    have Hap11 := Lib.hid hap11
    clear hM11 hR11 hA11 hin11 hj11 hj40 hF11 hi11 hP11 hap11
    go_wp2_with fail
    refine (queryKey_any _ _).mono ?_
    rintro e w12 ⟨rfl, c12⟩
    have HM12 := Lib.hid (HM11.out.new c12)
    have HP12 := Lib.hid (HP11.out.new c12)
    have HV12 := Lib.hid (HV11.out.new c12)
    have Hi12 := Lib.hid (Hi11.out.same c12)
    clear c12
    go_wp2_with fail
    refine (HM12.out.db.getA (gi := gi) Hok.out HR11.out (by omega) hqn HI.out HB.out HA11.out.1).mono ?_
    rintro e w13 ⟨d13, a13, c13, D13, rfl, hi13, hd13, hA13, hin13, ha13⟩
    have hM13 := HM12.out.after hd13 ha13
    obtain ⟨w14, hw14⟩ : ∃ x, x = w13.alloc (.cells #[.slice a13 1 c13, .string ⟨#[]⟩] 31) := ⟨_, rfl⟩
    have c14 : Chg [] w13 w14 := by rw [hw14]; exact (Chg.refl [] w13).alloc _
    have HV14 := Lib.hid ((HV12.out.after ha13).new c14)
    have HU14 := Lib.hid (show Box b w14 d13 w13.heap.size (.cells #[.slice a13 1 c13, .string ⟨#[]⟩] 31 (0, 0)) by rw [hw14]; exact Box.make hM13.db.mem _ _)
    have Hi14 := Lib.hid (And.intro ((ha13.ints HM12.out.db.mem Hi12.out).same c14) (hi13.same c14))
    have HM14 := Lib.hid (hM13.new c14)
    have HP14 := Lib.hid ((HP12.out.kept ha13.chg (fun g hg hs => Hap11.out g (.inl hg) hs) (fun g hg hs => Hap11.out g (.inr hg) hs)).new c14)
    have hcc : d13.cnt = d8.cnt := hA13.same HA8.out.1 hin13 HA8.out.2
    have Hcc := Lib.hid hcc
    have hle : d11.cnt ≤ d8.cnt := HA11.out.1.le HA8.out.1 HA8.out.2
    have hjle : (j : Int) * lim ≤ nd := by
      have h1 := Hj11.out.1
      have h2 : d.pl.cnt = d.cnt := rfl
      rw [h2] at h1
      have := Hnd.out
      omega
    have hnd40 : nd ≤ 40 := by have := Hnd.out; have := Hbd8.out; omega
    have hj0 : 0 ≤ (j : Int) * lim := Int.mul_nonneg (by omega) (by have := Hl.out; omega)
    obtain ⟨m, hm⟩ : ∃ m : Int, m = (j : Int) * lim := ⟨_, rfl⟩
    rw [← hm] at hjle hj0
    have hwr : wrap64 ((j : Int) * lim) = m := by rw [← hm]; unfold wrap64; omega
    have r0 := (hM13.db.chg.cell (p := ⟨w.heap.size, 0, none⟩) Hn.out.1 (by simp)).trans Hn.out.2.1
    have r1 := (hM13.db.chg.cell (p := ⟨w.heap.size, 1, none⟩) Hn.out.1 (by simp)).trans Hn.out.2.2
    have lr := lt_of_cell r0
    have hwr2 : IntKind.i64.wrap ((j : Int) * lim) = m := by rw [← hm]; exact IntWalk.i64_in _ (by omega)
    have hdc : decide (m ≤ nd) = true := decide_eq_true hjle
    have Hfin := Lib.hid (And.intro hjle (And.intro hwr (And.intro hwr2 hdc)))
    clear hi13 hd13 hA13 hin13 ha13 hM13 c14 hcc hle hjle hnd40 hj0 hm hwr hwr2 hdc
    go_wp2_with fail
    rw [← hw14]
    clear hw14 r0 r1 lr
    have hin14 := HM14.out.ints Hok.out
    rw [Hil.out] at hin14
    refine (eval_any (fun g => g < w14.heap.size) _ ⟨N, qs⟩ ins qn _ _ (Hq.out.old Hp0.out (Hc2.out.trans HM14.out.db.chg)) hin14 (fun k hk => hk)).mono ?_
    rintro e w15 ⟨h15 | h15, c15⟩
    · obtain ⟨_, rfl⟩ := h15
      have HM15 := Lib.hid (HM14.out.new c15)
      have HP15 := Lib.hid (HP14.out.new c15)
      have Hi15 := Lib.hid (And.intro (Hi14.out.1.same c15) (Hi14.out.2.same c15))
      have hv15 := HV14.out.new c15
      have hu15 := HU14.out.new c15
      obtain ⟨va, hva⟩ : ∃ va, val ⟨N, qs⟩ ins ((qn : Int)).toNat = va := ⟨_, rfl⟩
      rw [hva]
      have Hva := Lib.hid hva
      have x0 : w15.cell? ⟨w8.heap.size, 0, none⟩ = some (.slice a8 1 c8) := cell_of_heap hv15.blk rfl
      have x1 : w15.cell? ⟨w8.heap.size, 1, none⟩ = some (.string ⟨#[]⟩) := cell_of_heap hv15.blk rfl
      have y0 : w15.cell? ⟨w13.heap.size, 0, none⟩ = some (.slice a13 1 c13) := cell_of_heap hu15.blk rfl
      have y1 : w15.cell? ⟨w13.heap.size, 1, none⟩ = some (.string ⟨#[]⟩) := cell_of_heap hu15.blk rfl
      have lx := lt_of_cell x0
      have ly := lt_of_cell y0
      have K5 := Lib.hid (fun (wz : World) (hz : Chg [] w15 wz) => (And.intro (And.intro ((hz.cell (p := ⟨w8.heap.size, 0, none⟩) lx (by simp)).trans x0) ((hz.cell (p := ⟨w8.heap.size, 1, none⟩) lx (by simp)).trans x1)) (And.intro ((hz.cell (p := ⟨w13.heap.size, 0, none⟩) ly (by simp)).trans y0) ((hz.cell (p := ⟨w13.heap.size, 1, none⟩) ly (by simp)).trans y1))))
      obtain ⟨hjle, hwr, hwr2, hdc⟩ := Hfin.out
      clear hin14 c15 hva hv15 hu15
      go_wp2_with fail
      go_region_held3 (fun w' => (w'.cell? ⟨w8.heap.size, 0, none⟩ = some (.slice a8 1 c8) ∧ w'.cell? ⟨w8.heap.size, 1, none⟩ = some (.string ⟨#[]⟩)) ∧ w'.cell? ⟨w13.heap.size, 0, none⟩ = some (.slice a13 1 c13) ∧ w'.cell? ⟨w13.heap.size, 1, none⟩ = some (.string ⟨#[]⟩))
        (first | (go_keep; done) | (exact K5.out _ (by assumption)))
        (first
          | (go_at_call 14; refine (memoExample_any _).mono ?_; rintro e w16 ⟨rfl, c16⟩; have H8 := ((Chg.refl [] w15).drew).trans c16; have HH8 := Lib.hid H8; clear c16)
          | (go_at_call 21; with_reducible refine (computations_any _ b d13 (HM15.out.db.mem.new HH8.out)).mono ?_; rintro e w' ⟨rfl, hww⟩; rw [hww]; rw [Hcc.out]; clear hww)
          | (go_at_call 21; with_reducible refine (computations_any _ nb d8 (HP15.out.new HH8.out)).mono ?_; rintro e w' ⟨rfl, hww⟩; rw [hww]; clear hww)
          | (go_at_call 18; (with_reducible refine (number_any va _).mono ?_); rintro e w18 ⟨a18, c18, rfl, hi18, cc18⟩; have H10 := HH9.out.trans cc18; have HH10 := Lib.hid H10; have Hi18 := Lib.hid hi18; clear cc18 hi18 H9)
          | (go_at_call 20; (with_reducible refine (equalValues_any _ (.slice a8 1 c8) (.slice a13 1 c13) _ _ (Hi15.out.1.same HH8.out) (Hi15.out.2.same HH8.out)).mono ?_); rintro e w17 ⟨rfl, c17⟩; have H9 := HH8.out.trans c17; have HH9 := Lib.hid H9; simp only [decide_true]; clear c17 H8)
          | (go_at_call 20; (with_reducible refine (equalValues_any _ (.slice a13 1 c13) (.slice a18 1 c18) _ _ (Hi15.out.2.same HH10.out) Hi18.out).mono ?_); rintro e w19 ⟨rfl, c19⟩; have H11 := HH10.out.trans c19; have HH11 := Lib.hid H11; have hvv : val ⟨N, qs⟩ ins qn = va := Hva.out; rw [hvv]; simp only [decide_true]; clear c19 hvv H10))
      all_goals
        go_wp2_with fail
        go_ret
        exact ⟨rfl, (Hc2.out.trans HM15.out.db.chg).trans HH11.out⟩
    · exact absurd ⟨Hok.out, by rw [Hil.out], by omega, by simp only; omega⟩ h15.1
end Go.Proofs.Ytdeodcomlakpaaa
