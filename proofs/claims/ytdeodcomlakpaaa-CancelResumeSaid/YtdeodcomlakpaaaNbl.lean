/- cancel.GetWithin's answer with its shape; cancel.Attempts. -/
import Derived.Test.YtdeodcomlakpaaaNbk
namespace Go.Proofs.Ytdeodcomlakpaaa
open Go.RowKit Go.ChangeMaps Go.MapKept
set_option linter.unusedVariables false
set_option linter.unusedSimpArgs false
def WithinV (p : Prg) (wb : World) (b : Nat) (q : Nat) (limit : Int) (w : World) (d : Dm) (e : Ending) (w' : World) : Prop :=
  ∃ d' xa xn xc, DbF p wb b w' d' ∧ d'.pl = (upQ p (within d.cnt limit) d.pl (1, (q : Int), 0)).2.idle ∧ After b w w' d d' ∧ e = .returned (.tuple #[.agg #[.slice xa xn xc, .string ⟨#[]⟩], .int .i64 (IntKind.i64.wrap (d'.cnt - d.cnt)), .int .i64 (errOf (upQ p (within d.cnt limit) d.pl (1, (q : Int), 0)).1)])
set_option maxRecDepth 100000 in
set_option maxHeartbeats 8000000 in
theorem getWithinV_any {p : Prg} (hp : PrgOk p) {wb : World} {b : Nat} {w : World} {d : Dm} (h : DbF p wb b w d) (q : Nat) (hq : q < p.qs.length) (limit : Int) :
    Calls Try.prog 77 #[.pointer (some ⟨b, 0, none⟩), i3v (1, (q : Int), 0), .int .i64 limit] w (WithinV p wb b q limit w d) := by
  obtain ⟨w4, hw4⟩ : ∃ x, x = (((w.alloc (.cells #[.pointer (some ⟨b, 0, none⟩)] 24)).alloc (.cells #[.int .i64 1, .int .i64 (q : Int), .int .i64 0] 27)).alloc (.cells #[.int .i64 limit] 3)).alloc (.cells #[.slice none 0 0, .string ⟨#[]⟩] 31) := ⟨_, rfl⟩
  have hc4 : Chg [] w w4 := by rw [hw4]; exact ((((Chg.refl [] w).alloc _).alloc _).alloc _).alloc _
  have hz4 : w4.heap.size = w.heap.size + 4 := by rw [hw4]; simp
  have k3 : w4.heap[w.heap.size]? = some (.cells #[.pointer (some ⟨b, 0, none⟩)] 24 (0, 0)) := by
    rw [hw4]; exact (heap_past _ _ _ (by simp; omega)).trans ((heap_past _ _ _ (by simp; omega)).trans ((heap_past _ _ _ (by simp)).trans (heap_at _ _ _ rfl)))
  have k5 : w4.heap[w.heap.size + 1 + 1]? = some (.cells #[.int .i64 limit] 3 (0, 0)) := by
    rw [hw4]; exact (heap_past _ _ _ (by simp)).trans (heap_at _ _ _ (by simp))
  have k6 : w4.heap[w.heap.size + 1 + 1 + 1]? = some (.cells #[.slice none 0 0, .string ⟨#[]⟩] 31 (0, 0)) := by
    rw [hw4]; exact heap_at _ _ _ (by simp)
  have k4 : w4.heap[w.heap.size + 1]? = some (.cells #[.int .i64 1, .int .i64 (q : Int), .int .i64 0] 27 (0, 0)) := by
    rw [hw4]; exact (heap_past _ _ _ (by simp)).trans ((heap_past _ _ _ (by simp)).trans (heap_at _ _ _ (by simp)))
  have c3 : w4.cell? ⟨w.heap.size, 0, none⟩ = some (.pointer (some ⟨b, 0, none⟩)) := cell_of_heap k3 rfl
  have c40 : w4.cell? ⟨w.heap.size + 1, 0, none⟩ = some (.int .i64 1) := cell_of_heap k4 rfl
  have c41 : w4.cell? ⟨w.heap.size + 1, 1, none⟩ = some (.int .i64 (q : Int)) := cell_of_heap k4 rfl
  have c42 : w4.cell? ⟨w.heap.size + 1, 2, none⟩ = some (.int .i64 0) := cell_of_heap k4 rfl
  have h4 := h.new hc4
  have Hk := Lib.hid (And.intro k3 (And.intro k4 (And.intro k5 k6)))
  have H4 := Lib.hid h4
  have Hc4 := Lib.hid hc4
  have H := Lib.hid h
  clear k3 k4 k5 k6 h4 hc4 h
  unfold i3v
  go_enter Try.func77, Try.ntmps77
  go_wp2_with fail
  rw [← hw4]
  clear hw4
  have l0 : w.heap.size < w4.heap.size := by omega
  have l1 : w.heap.size + 1 < w4.heap.size := by omega
  have l2 : w.heap.size + 1 + 1 < w4.heap.size := by omega
  have hmf : ∀ (fn : Fn) (first cap : Array Value) (w : World), (Instr.makeFunc fn first cap).run Try.prog w = .ok (.func fn first cap) w := fun _ _ _ _ => rfl
  refine (computations_any _ b d H4.out.mem).mono ?_
  rintro e w' ⟨rfl, hww⟩
  rw [hww]
  clear hww
  have Hz4 := Lib.hid hz4
  clear hz4
  go_wp2_with fail
  obtain ⟨w5, hw5⟩ : ∃ x, x = w4.alloc (.cells #[.int .i64 d.cnt] 3) := ⟨_, rfl⟩
  have hc5 : Chg [] w4 w5 := by rw [hw5]; exact (Chg.refl [] w4).alloc _
  have k9 : w5.heap[w4.heap.size]? = some (.cells #[.int .i64 d.cnt] 3 (0, 0)) := by rw [hw5]; exact heap_at _ _ _ rfl
  have k3 := (hc5.block _ (lt_of_obj Hk.out.1) (by simp)).trans Hk.out.1
  have k5 := (hc5.block _ (lt_of_obj Hk.out.2.2.1) (by simp)).trans Hk.out.2.2.1
  have k6 := (hc5.block _ (lt_of_obj Hk.out.2.2.2) (by simp)).trans Hk.out.2.2.2
  have off : ∀ g, w.heap.size ≤ g → g ∉ d.muts b := fun g hg hm => by have := H.out.mem.lt g hm; omega
  have hz4 := Hz4.out
  have hF : ∃ w0 RO bv bq qv, (DbQ p w0 RO b bv bq qv w5 d ∧ ∀ g, RO g → g < w.heap.size) ∧ Chg [] wb w5 ∧ (∀ g ∈ d.muts b, wb.heap.size ≤ g) ∧ ∀ g, RO g → g < b := by
    obtain ⟨w0, RO, bv, bq, qv, g1, g2, g3⟩ := H.out
    exact ⟨w0, RO, bv, bq, qv, ⟨g1.new (Hc4.out.trans hc5), fun g hg => (g1.env.ro g hg).1⟩, g2.trans (Hc4.out.trans hc5), g3⟩
  obtain ⟨w0, RO, bv, bq, qv, ⟨hq0, hrol⟩, hcb, hfr⟩ := hF
  have Hrol := Lib.hid hrol
  clear hrol
  have hq1 := hq0.rebase (fun g => g = w.heap.size ∨ g = w4.heap.size ∨ g = w.heap.size + 1 + 1) (by
    rintro g (rfl | rfl | rfl)
    · exact ⟨lt_of_obj k3, off _ (Nat.le_refl _)⟩
    · exact ⟨lt_of_obj k9, off _ (by omega)⟩
    · exact ⟨lt_of_obj k5, off _ (by omega)⟩)
  have hsf : SFam w5 (fun g => RO g ∨ (g = w.heap.size ∨ g = w4.heap.size ∨ g = w.heap.size + 1 + 1)) b 99 #[] #[.pointer (some ⟨w.heap.size, 0, none⟩), .pointer (some ⟨w4.heap.size, 0, none⟩), .pointer (some ⟨w.heap.size + 1 + 1, 0, none⟩)] (within d.cnt limit) :=
    ⟨enterW, fun w' d' he => within_any w' b _ _ _ d' d.cnt limit he.mem ((he.ro _ (Or.inr (Or.inl rfl))).2.1.trans k3) ((he.ro _ (Or.inr (Or.inr (Or.inl rfl)))).2.1.trans k9) ((he.ro _ (Or.inr (Or.inr (Or.inr rfl)))).2.1.trans k5)⟩
  have Hcall := Lib.hid (hq1.until hp _ #[] _ hsf q hq)
  have Hq0 := Lib.hid (And.intro hq0 (And.intro hcb hfr))
  have Hc5 := Lib.hid (Hc4.out.trans hc5)
  have B3 := Lib.hid (show Box b w5 d _ _ from ⟨k3, off _ (Nat.le_refl _)⟩)
  have B9 := Lib.hid (show Box b w5 d _ _ from ⟨k9, off _ (by omega)⟩)
  have B6 := Lib.hid (show Box b w5 d _ _ from ⟨k6, off _ (by omega)⟩)
  have Off := Lib.hid off
  unfold i3v at Hcall
  rw [← hw5]
  have Hl := Lib.hid l0
  have Hq9 := Lib.hid k9
  clear hz4 hw5 hc5 k9 k3 k5 k6 off hq0 hcb hfr hq1 hsf l0 l1 l2 c3 c40 c41 c42
  refine Hcall.out.mono ?_
  rintro e w6 ⟨⟨d6, ha6, hpl6, hm6⟩, hinv⟩
  have hex : ∃ xa xn xc, e = .returned (.tuple #[.agg #[.slice xa xn xc, .string ⟨#[]⟩], .int .i64 (errOf (upQ p (within d.cnt limit) d.pl (1, (q : Int), 0)).1)]) := by
    rcases hu : (upQ p (within d.cnt limit) d.pl (1, (q : Int), 0)).1 with x | y
    · rw [hu] at hm6
      exact ⟨_, _, _, hm6⟩
    · rw [hu] at hm6
      obtain ⟨a, c, h, _⟩ := hm6
      exact ⟨_, _, _, h⟩
  obtain ⟨xa, xn, xc, rfl⟩ := hex
  have hdq := Hq0.out.1.after ha6 (hinv d6 hpl6 ha6)
  have hd6 : DbF p wb b w6 d6 := ⟨w0, RO, bv, bq, qv, hdq, grow Hq0.out.2.1 Hq0.out.2.2 ha6⟩
  have Hdq := Lib.hid hdq
  clear hdq
  have hcv : Chg [] w6 (w6.alloc (.cells #[.slice xa xn xc, .string ⟨#[]⟩] 31)) := (Chg.refl [] w6).alloc _
  have B3' := Lib.hid ((B3.out.after ha6).new hcv)
  have B9' := Lib.hid ((B9.out.after ha6).new hcv)
  have B6' := Lib.hid ((B6.out.after ha6).new hcv)
  have Bv := Lib.hid (Box.make hd6.mem #[.slice xa xn xc, .string ⟨#[]⟩] 31)
  have H6 := Lib.hid (hd6.new hcv)
  have Hpl := Lib.hid hpl6
  have Ha6 := Lib.hid ha6
  have Hcv := Lib.hid hcv
  obtain ⟨er, her⟩ : ∃ er, er = errOf (upQ p (within d.cnt limit) d.pl (1, (q : Int), 0)).1 := ⟨_, rfl⟩
  rw [← her]
  have Her := Lib.hid her
  clear her
  clear hm6 hinv hd6 hcv hpl6 ha6 B3 B9 B6 Hcall
  go_wp2_with fail
  obtain ⟨w7, hw7⟩ : ∃ y, y = w6.alloc (.cells #[.slice xa xn xc, .string ⟨#[]⟩] 31) := ⟨_, rfl⟩
  have Hcv' := Lib.hid (show Chg [] w6 w7 by rw [hw7]; exact Hcv.out)
  rw [← hw7] at B3' B9' B6' Bv H6 ⊢
  clear hw7 Hcv
  have h46 : w4.heap.size < w6.heap.size := by
    have := Ha6.out.chg.size
    have := lt_of_obj Hq9.out
    omega
  have n1 : ¬ w6.heap.size = w.heap.size + 1 + 1 + 1 := by have := Hz4.out; omega
  have n2 : ¬ w4.heap.size = w.heap.size + 1 + 1 + 1 := by have := Hz4.out; omega
  have n1' : ¬ w.heap.size + 1 + 1 + 1 = w6.heap.size := fun e => n1 e.symm
  have n2' : ¬ w.heap.size + 1 + 1 + 1 = w4.heap.size := fun e => n2 e.symm
  have v0 : w7.cell? ⟨w6.heap.size, 0, none⟩ = some (.slice xa xn xc) := cell_of_heap Bv.out.blk rfl
  have v1 : w7.cell? ⟨w6.heap.size, 1, none⟩ = some (.string ⟨#[]⟩) := cell_of_heap Bv.out.blk rfl
  have y3 : w7.cell? ⟨w.heap.size, 0, none⟩ = some (.pointer (some ⟨b, 0, none⟩)) := cell_of_heap B3'.out.blk rfl
  have y9 : w7.cell? ⟨w4.heap.size, 0, none⟩ = some (.int .i64 d.cnt) := cell_of_heap B9'.out.blk rfl
  have z0 : w7.cell? ⟨w.heap.size + 1 + 1 + 1, 0, none⟩ = some (.slice none 0 0) := cell_of_heap B6'.out.blk rfl
  have z1 : w7.cell? ⟨w.heap.size + 1 + 1 + 1, 1, none⟩ = some (.string ⟨#[]⟩) := cell_of_heap B6'.out.blk rfl
  have f0 : w7.frozen? ⟨w.heap.size + 1 + 1 + 1, 0, none⟩ = false := frozen_of_heap (i := 0) B6'.out.blk
  have f1 : w7.frozen? ⟨w.heap.size + 1 + 1 + 1, 1, none⟩ = false := frozen_of_heap (i := 1) B6'.out.blk
  go_region_held3 (fun w' => w'.cell? ⟨w6.heap.size, 0, none⟩ = some (.slice xa xn xc) ∧ w'.cell? ⟨w6.heap.size, 1, none⟩ = some (.string ⟨#[]⟩) ∧ w'.cell? ⟨w.heap.size, 0, none⟩ = some (.pointer (some ⟨b, 0, none⟩)) ∧ w'.cell? ⟨w4.heap.size, 0, none⟩ = some (.int .i64 d.cnt))
    (first | (go_keep; done) | (refine ⟨?_, ?_, ?_, ?_⟩ <;> (simp [go_sem, *]; done)))
    ((go_at_call 21; refine (computations_any _ b d6 (H6.out.mem.new ((Chg.refl [] w7).drew))).mono ?_; rintro e w8 ⟨rfl, rfl⟩))
  have hbe : ∀ W : World, ChgP (fun g => g = w.heap.size + 1 + 1 + 1) w7 W → WithinV p wb b q limit w d (.returned (.tuple #[.agg #[.slice xa xn xc, .string ⟨#[]⟩], .int .i64 (IntKind.i64.wrap (d6.cnt - d.cnt)), .int .i64 er])) W := by
    intro W hW
    have hz := Hz4.out
    have h5 := Hc5.out
    have hl5 : w4.heap.size < w5.heap.size := lt_of_obj Hq9.out
    have hni : w.heap.size + 1 + 1 + 1 ∉ d6.imms := fun hm => (Ha6.out.imms _ hm).elim (fun h => by have := H.out.mem.bound _ h; omega) fun h => by omega
    have hall : ∀ g, g = w.heap.size + 1 + 1 + 1 → g ∉ d6.muts b ∧ g ∉ d6.imms ∧ ¬ RO g := by
      rintro g rfl
      exact ⟨B6'.out.off, hni, fun h => by have := Hrol.out _ h; omega⟩
    have h7 := (Hdq.out.new Hcv'.out).other hW hall
    have hch : ChgP (fun g => g ∈ d.muts b) w W := (((h5.p (S := fun g => g ∈ d.muts b)).trans Ha6.out.chg).new Hcv'.out).comp hW fun g hg => Or.inr (by omega)
    have haf : After b w W d d6 := ⟨h7.env.mem, hch, fun g hg => (Ha6.out.muts g hg).imp id fun h => Nat.le_trans h5.size h, fun g hg => (Ha6.out.imms g hg).imp id fun h => Nat.le_trans h5.size h, Ha6.out.comp, Ha6.out.stop⟩
    obtain ⟨_, _, _, _, _, _, g2, g3⟩ := H.out
    refine ⟨d6, xa, xn, xc, ⟨w0, RO, bv, bq, qv, h7, grow g2 ⟨g3.1, Hq0.out.2.2.2⟩ haf⟩, Hpl.out, haf, ?_⟩
    rw [← Her.out]
  have Hbe := Lib.hid hbe
  obtain ⟨w9, hw9⟩ : ∃ y, y = ((w7.setCell ⟨w.heap.size + 1 + 1 + 1, 0, none⟩ (.slice xa xn xc)).setCell ⟨w.heap.size + 1 + 1 + 1, 1, none⟩ (.string ⟨#[]⟩)).drew := ⟨_, rfl⟩
  have hW9 : ChgP (fun g => g = w.heap.size + 1 + 1 + 1) w7 w9 := by
    rw [hw9]
    exact ((((ChgP.refl (fun g => g = w.heap.size + 1 + 1 + 1) w7).setCell (p := ⟨w.heap.size + 1 + 1 + 1, 0, none⟩) (Or.inl rfl) _).setCell (p := ⟨w.heap.size + 1 + 1 + 1, 1, none⟩) (Or.inl rfl) _)).new ((Chg.refl [] _).drew)
  have hres : w9.heap[w.heap.size + 1 + 1 + 1]? = some (.cells #[.slice xa xn xc, .string ⟨#[]⟩] 31 (0, 0)) := by
    rw [hw9]
    exact (heap_setCell_same (heap_setCell_same B6'.out.blk _) _).trans rfl
  rw [← hw9]
  have d0 : w9.cell? ⟨w.heap.size + 1 + 1 + 1, 0, none⟩ = some (.slice xa xn xc) := cell_of_heap hres (i := 0) rfl
  have d1 : w9.cell? ⟨w.heap.size + 1 + 1 + 1, 1, none⟩ = some (.string ⟨#[]⟩) := cell_of_heap hres (i := 1) rfl
  have HW9 := Lib.hid hW9
  clear hw9 hW9 hres hbe
  go_wp2_with fail
  exact bodyPost_ret (v := .tuple #[.agg #[.slice xa xn xc, .string ⟨#[]⟩], .int .i64 (IntKind.i64.wrap (d6.cnt - d.cnt)), .int .i64 er]) (by simp [results, Try.results77, go_sem, d0, d1]) rfl (Hbe.out _ HW9.out)
def AttPost (p : Prg) (wb : World) (b gi n q : Nat) (I : List Int) (H : Hist) (S0 : PS) (lim : Int) (w : World) (d : Dm) (ins : List Int) (e : Ending) (w' : World) : Prop :=
  ∃ (j : Nat) (d' : Dm) (D' : List Nat), e = .returned (.tuple #[.int .i64 (j : Int), .int .i64 0]) ∧ RunM p wb b gi w' d' ins ∧ RunP p (n + 50) d'.pl ins ∧ Att p I H S0 q D' d'.pl ∧ q ∈ D' ∧ (j : Int) * lim ≤ d'.cnt - S0.cnt ∧ j ≤ 40 ∧ After b w w' d d'
set_option maxRecDepth 100000 in
set_option maxHeartbeats 8000000 in
theorem attempts_any {p : Prg} (hp : PrgOk p) {wb w : World} {b gi n q : Nat} {d : Dm} {ins I : List Int} {H : Hist} {S0 : PS} (hM : RunM p wb b gi w d ins) (hR : RunP p n d.pl ins) (hn : n ≤ 900) (hq : q < p.qs.length) (hI : insH p H S0.rev = I) (hb : Base p I S0) (hA : Att p I H S0 q [] d.pl) (h0 : d.cnt = S0.cnt) (lim : Int) (hl : 1 ≤ lim ∧ lim ≤ 5) :
    Calls Try.prog 48 #[.pointer (some ⟨b, 0, none⟩), i3v (1, (q : Int), 0), .int .i64 lim] w (AttPost p wb b gi n q I H S0 lim w d ins) := by
  obtain ⟨wa, hwa⟩ : ∃ x, x = w.alloc (.cells #[.int .i64 1, .int .i64 (q : Int), .int .i64 0] 27) := ⟨_, rfl⟩
  have hca : Chg [] w wa := by rw [hwa]; exact (Chg.refl [] w).alloc _
  have hbx : Box b wa d w.heap.size (.cells #[.int .i64 1, .int .i64 (q : Int), .int .i64 0] 27 (0, 0)) := by rw [hwa]; exact Box.make hM.db.mem _ _
  have Hm := Lib.hid (hM.new hca)
  have Hr := Lib.hid hR
  have Hbx := Lib.hid hbx
  have Hc := Lib.hid hca
  have HA0 := Lib.hid hA
  have Hst0 := Lib.hid (show After b wa wa d d from ⟨(hM.new hca).db.mem, ChgP.refl _ _, fun _ h => Or.inl h, fun _ h => Or.inl h, rfl, by obtain ⟨_, _, _, _, _, g1, _⟩ := hM.db; exact g1.stop⟩)
  have H0 := Lib.hid h0
  have hlim : ¬ lim < 1 := by omega
  have HL := Lib.hid hl
  have HI := Lib.hid hI
  have HB := Lib.hid hb
  clear hM hR hbx hca hA h0 hl hI hb
  unfold i3v
  go_enter Try.func48, Try.ntmps48
  go_wp2_with fail
  rw [← hwa]
  clear hwa
  go_loopw [18] (fun jj wr => ∃ (k : Nat) (d' : Dm) (D : List Nat), (k ≤ 40 ∧ (k : Int) ≤ d'.cnt - S0.cnt ∧ (k : Int) * lim ≤ d'.cnt - S0.cnt) ∧ jj = .int .i64 (k : Nat) ∧ RunM p wb b gi wr d' ins ∧ RunP p (n + k) d'.pl ins ∧ Att p I H S0 q D d'.pl ∧ After b wa wr d d' ∧ Box b wr d' w.heap.size (.cells #[.int .i64 1, .int .i64 (q : Int), .int .i64 0] 27 (0, 0))) (fun jj _ => 1000 - (intOf jj).toNat)
  case atStart => exact ⟨0, d, [], ⟨by omega, by have := H0.out; simp; omega, by have := H0.out; simp; omega⟩, rfl, Hm.out, Hr.out, HA0.out, Hst0.out, Hbx.out⟩
  case round =>
    obtain ⟨k, d', D, hk, rfl, hM, hR, hA, hF, hB⟩ := hrel
    have Hk := Lib.hid hk
    have HM := Lib.hid hM
    have HR := Lib.hid hR
    have HA := Lib.hid hA
    have HF := Lib.hid hF
    have HX := Lib.hid hB
    have hk1 : (k : Int) < 1000 := by omega
    have k0 : wr.cell? ⟨w.heap.size, 0, none⟩ = some (.int .i64 1) := cell_of_heap hB.blk rfl
    have k1 : wr.cell? ⟨w.heap.size, 1, none⟩ = some (.int .i64 (q : Int)) := cell_of_heap hB.blk rfl
    have k2 : wr.cell? ⟨w.heap.size, 2, none⟩ = some (.int .i64 0) := cell_of_heap hB.blk rfl
    have lk := lt_of_cell k0
    clear hk hM hR hA hF hB
    go_wp2_with fail
    refine (getWithinV_any hp HM.out.db q hq lim).mono ?_
    rintro e w6 ⟨d6, xa, xn, xc, hd6, hpl6, ha6, rfl⟩
    obtain ⟨x, t', D', hu, hA6, hx, hsub⟩ := HA.out.go hp hq HI.out HB.out (within d'.cnt lim)
    have hR6 := HR.out.upd hp (by have := Hk.out.1; omega) (within d'.cnt lim) hq
    rw [hu] at hpl6 hR6 ⊢
    rw [← hpl6] at hA6 hR6
    obtain ⟨w7, hw7⟩ : ∃ x, x = w6.alloc (.cells #[.slice xa xn xc, .string ⟨#[]⟩] 31) := ⟨_, rfl⟩
    have c7 : Chg [] w6 w7 := by rw [hw7]; exact (Chg.refl [] w6).alloc _
    have HM7 := Lib.hid ((HM.out.after hd6 ha6).new c7)
    have HF7 := Lib.hid ((HF.out.trans ha6).new c7)
    have HX7 := Lib.hid ((HX.out.after ha6).new c7)
    have HR7 := Lib.hid hR6
    have HA7 := Lib.hid hA6
    have hcn : t'.cnt = d6.cnt := by
      have h : d6.pl.cnt = t'.cnt := by rw [hpl6]; rfl
      exact h.symm
    have Hcn := Lib.hid hcn
    have Hsub := Lib.hid hsub
    clear hd6 hpl6 ha6 hA6 hR6 c7 k0 k1 k2 lk hsub hcn
    rcases hx with ⟨rfl, hin⟩ | ⟨rfl, hst⟩
    · have Hin := Lib.hid hin
      clear hin
      unfold errOf
      go_wp2_with fail
      rw [← hw7]
      clear hw7
      go_ret2
      refine ⟨k, d6, D', rfl, HM7.out, HR7.out.mono (by have := Hk.out.1; omega), HA7.out, Hin.out, ?_, Hk.out.1, ⟨HF7.out.mem, (Hc.out.p (S := fun g => g ∈ d.muts b)).trans HF7.out.chg, fun g hg => (HF7.out.muts g hg).imp id fun h => Nat.le_trans Hc.out.size h, fun g hg => (HF7.out.imms g hg).imp id fun h => Nat.le_trans Hc.out.size h, HF7.out.comp, HF7.out.stop⟩⟩
      have h1 := HA.out.desc.cnt
      have h2 := HA7.out.desc.cnt
      have h3 := Hk.out.2.2
      have h4 : cntF p I S0 D ≤ cntF p I S0 D' := cnt_le HA.out.desc.nd Hsub.out
      have h5 : d'.pl.cnt = d'.cnt := rfl
      have h6 : d6.pl.cnt = d6.cnt := rfl
      omega
    · have Hst := Lib.hid hst
      clear hst
      unfold errOf
      go_wp2_with fail
      rw [← hw7]
      clear hw7
      go_roundw
      case rel =>
        have h1 := HA.out.bd hp
        have h2 := HA7.out.bd hp
        have h3 := Hk.out
        have h5 : d'.pl.cnt = d'.cnt := rfl
        have h6 : d6.pl.cnt = d6.cnt := rfl
        have h7 := Hst.out
        unfold within at h7
        rw [decide_eq_true_eq, Hcn.out] at h7
        have h8 := HB.out.cnt
        rw [h5] at h1
        rw [h6] at h2
        have h9 : IntKind.i64.wrap (d6.cnt - d'.cnt) = d6.cnt - d'.cnt := IntWalk.i64_in _ (by omega)
        rw [h9] at h7
        have hl := HL.out
        have hmul : (((k + 1 : Nat) : Int)) * lim = (k : Int) * lim + lim := by
          rw [Int.natCast_add, Int.add_mul]; simp
        exact ⟨k + 1, d6, D', ⟨by omega, by omega, by rw [hmul]; omega⟩, by go_num, HM7.out, HR7.out.mono (by omega), HA7.out, HF7.out, HX7.out⟩
      case measure => simp only [intOf]; omega
end Go.Proofs.Ytdeodcomlakpaaa
