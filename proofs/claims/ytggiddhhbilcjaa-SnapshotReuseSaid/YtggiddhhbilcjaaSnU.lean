/- history: the walk. -/
import Derived.Test.YtggiddhhbilcjaaSnT
namespace Go.Proofs.Ytggiddhhbilcjaa.Sn
open Go.RowKit Go.ChangeMaps Go.MapKept Go.MuLone
set_option linter.unusedVariables false
set_option linter.unusedSimpArgs false
def tgt (ss : List I3) (N : Nat) (j : Nat) : Nat := (modI (ss.getD j (0, 0, 0)).2.1 (N : Int)).toNat
def HistPost (p : Prg) (N : Nat) (ss : List I3) (w : World) (e : Ending) (w' : World) : Prop :=
  ∃ d v rows B, e = .returned (.tuple #[.pointer (some ⟨d.b, 0, none⟩), v]) ∧ LawH p w B w' d ∧ HRel p d.pl rows (tgt ss N) ∧ d.RL = [] ∧ d.old = 0 ∧ StAt B w' v rows ∧ rows.length = min ss.length 15 + 1
theorem LawH.before {p : Prg} {W0 W1 w : World} {B : Nat} {d : Hm} (h : LawH p W1 B w d) (hc : Chg [] W0 W1) : LawH p W0 B w d :=
  ⟨h.ex, h.mu, hc.trans h.chg, fun g hg => Nat.le_trans hc.size (h.new g hg)⟩
theorem rows_len {p : Prg} {N : Nat} (hN : p.inp = N) {s : HS} {rows : List (List Int)} {tg : Nat → Nat} (h : HRel p s rows tg) {j : Nat} (hj : j < rows.length) : rows[j].length = N := by
  have := h.row j hj
  rw [List.getD_eq_getElem?_getD, List.getElem?_eq_getElem hj, Option.getD_some] at this
  rw [this]
  unfold insS
  simp [hN]
structure HLoop (p : Prg) (N : Nat) (ss : List I3) (w1 : World) (B db : Nat) (k : Nat) (d : Hm) (v : Value) (rows : List (List Int)) (wr : World) : Prop where
  law : LawH p w1 B wr d
  rel : HRel p d.pl rows (tgt ss N)
  rl : d.RL = []
  old : d.old = 0
  st : StAt B wr v rows
  len : rows.length = k + 1
  b : d.b = db
  sz : B ≤ wr.heap.size
theorem hrow_new {w w' : World} {v : Value} {xs : List Int} (h : RowI w v xs) (hc : Chg [] w w') : RowI w' v xs := h.kept (S := fun _ => False) hc.p (fun _ _ h => h)
section
variable {p : Prg} {N : Nat} {ss : List I3} {w1 : World} {B db k : Nat} {d : Hm} {v : Value} {rows : List (List Int)} {wr w' : World}
theorem HLoop.newW (h : HLoop p N ss w1 B db k d v rows wr) (hc : Chg [] wr w') : HLoop p N ss w1 B db k d v rows w' :=
  ⟨h.law.newW hc, h.rel, h.rl, h.old, h.st.new hc, h.len, h.b, Nat.le_trans h.sz hc.size⟩
theorem HLoop.next (hp : PrgOk p) (h : HLoop p N ss w1 B db k d v rows wr) {jn : Nat} {x : Int} {d' : Hm} {w2 w3 : World} {v' : Value} (hB : w1.heap.size ≤ B) (hj : (jn : Int) < p.inp) (ht : tgt ss N k = jn) (hk : k ≤ 100) (ha : AfterH wr w2 d d') (hpl : d'.pl = comP d.pl (0, (jn : Int), 0) [x]) (hmu : d'.mu = 0) (hrl : d.RL = [] → d'.RL = []) (hc : ChgP (fun g => v.ownBlock = some g) w2 w3) (hst : StAt B w3 v' (rows ++ [(rows.getD k []).set jn x])) :
    HLoop p N ss w1 B db (k + 1) d' v' (rows ++ [(rows.getD k []).set jn x]) w3 := by
  have hlen := h.len
  have hlat := h.rel.lat
  have hlaw := h.law.after ha hmu
  have hst2 := h.st.after h.law.mem ha
  obtain ⟨vs, _, ho, _⟩ := hst2
  have hcom := h.rel.commit hp (n := x) hj (by rw [h.len]; simpa using ht) (by unfold fev; omega)
  rw [h.len, show k + 1 - 1 = k from rfl, ← hpl] at hcom
  refine ⟨hlaw.other hc fun g hg => ?_, hcom, hrl h.rl, ?_, hst, by simp [h.len], ha.b.trans h.b, Nat.le_trans (Nat.le_trans h.sz ha.chg.size) hc.size⟩
  · have ht := tyAt_own ho hg
    have hB2 := (ho.lt g hg).1
    refine ⟨ne_tyM (by decide) hlaw.mem ht, fun hi => ?_, by omega, hB2⟩
    rcases hlaw.mem.tyI hi with e | e <;> · rw [ht] at e; cases e
  · have e : d'.pl.old = d.pl.old := by rw [hpl]; exact comP_old
    exact e.trans h.old
end
set_option maxRecDepth 100000 in
set_option maxHeartbeats 8000000 in
theorem history_any {N : Nat} {qs : List (List QO)} (hp : PrgOk ⟨(N : Int), qs⟩) (w : World) (hL1 : 0 < qs.length) (hN1 : 0 < N) (qv sv : Value) (ss : List I3) (hq : I3ss (fun g => g < w.heap.size) w qv qs) (hs : I3s (fun g => g < w.heap.size) w sv ss) :
    Calls Try.prog 8 #[.agg #[.int .i64 (N : Int), qv], sv] w (HistPost ⟨(N : Int), qs⟩ N ss w) := by
  have hN40 : N ≤ 40 := by have h : (N : Int) ≤ 40 := hp.inp.2; omega
  obtain ⟨qa, qc, rfl, hlm, hlc⟩ := hq.shape
  obtain ⟨sa, sc, rfl, hml, hmc⟩ := hs.shape
  obtain ⟨kk, hkk⟩ : ∃ kk : Nat, min (ss.length : Int) 15 = kk := ⟨(min (ss.length : Int) 15).toNat, by omega⟩
  have hks : kk ≤ ss.length := by omega
  have hk15 : kk ≤ 15 := by omega
  have hksc : (kk : Int) ≤ sc := by omega
  obtain ⟨wa, hwa⟩ : ∃ x, x = w.alloc (.cells #[.int .i64 (N : Int), .slice qa qs.length qc] 24) := ⟨_, rfl⟩
  have hca : Chg [] w wa := by rw [hwa]; exact (Chg.refl [] w).alloc _
  have hba : wa.heap[w.heap.size]? = some (.cells #[.int .i64 (N : Int), .slice qa qs.length qc] 24 (0, 0)) := by rw [hwa]; exact heap_at _ _ _ rfl
  have m0 : wa.cell? ⟨w.heap.size, 0, none⟩ = some (.int .i64 (N : Int)) := cell_of_heap hba rfl
  have m1 : wa.cell? ⟨w.heap.size, 1, none⟩ = some (.slice qa qs.length qc) := cell_of_heap hba rfl
  have lm : w.heap.size < wa.heap.size := lt_of_cell m0
  have Hq := Lib.hid (hq.old (fun _ h => h) hca)
  have Hs := Lib.hid (I3s.imp (I3s.kept (S := fun _ => False) hs hca.p (fun _ _ h => h)) (fun g hg => Nat.lt_of_lt_of_le hg hca.size) : I3s (fun g => g < wa.heap.size) wa (.slice sa ss.length sc) ss)
  have Hba := Lib.hid hba
  have Hc := Lib.hid hca
  have Hp := Lib.hid hp
  have Hkk := Lib.hid hkk
  clear hs hba hca hp hlm hlc hq
  go_enter Try.func8, Try.ntmps8
  go_wp2_with fail
  rw [← hwa]
  clear hwa
  refine (compile_any _ wa N qs _ Hq.out Hp.out).mono ?_
  rintro e w2 ⟨bv, bq, qv', rfl, hm2, hc2⟩
  have Hm2 := Lib.hid hm2
  have Hc2 := Lib.hid hc2
  have n0 := (hc2.cell (p := ⟨w.heap.size, 0, none⟩) lm (by simp)).trans m0
  have ln := lt_of_cell n0
  clear hm2 hc2 m0 m1 lm
  go_wp2_with fail
  refine (snNew_any _ _ w2).mono ?_
  rintro e w3 ⟨d, rfl, hd, hpl, hcomp, hmu, hc3, hrl, hn⟩
  have hlaw : LawH ⟨(N : Int), qs⟩ wa w2.heap.size w3 d := LawH.start (Chg.refl _ _) Hm2.out Hc2.out hd hcomp hmu hc3 hn
  have k0 := (hc3.cell (p := ⟨w.heap.size, 0, none⟩) ln (by simp)).trans n0
  have lk : w.heap.size < w3.heap.size := lt_of_cell k0
  have hmk := run_make_row' (P := Try.prog) 37 3 (.int .i64 0) 8 Try.underlying37 Try.infoIntQ rfl .i64 .i64 N (by omega) (by omega)
  have hmk' := hmk w3
  have Hlaw := Lib.hid hlaw
  have Hd := Lib.hid (And.intro hpl (And.intro hc3.size hrl))
  clear hlaw hd hpl hcomp hmu hc3 hrl hn n0 ln
  go_upto_region 3 with fail
  have hcur : madeCells #[.int .i64 0] N = (List.replicate N (Value.int .i64 0)).toArray := by
    apply Array.ext
    · simp [madeCells]
    · intro i h1 h2
      simp [madeCells, Nat.mod_one]
  obtain ⟨w5, hw5⟩ : ∃ x, x = ((w3.alloc (.cells (madeCells #[.int .i64 0] N) 3)).alloc (.cells #[.slice (some ⟨w3.heap.size, 0, none⟩) N N] 37)) := ⟨_, rfl⟩
  have hc5 : Chg [] w3 w5 := by rw [hw5]; exact ((Chg.refl [] w3).alloc _).alloc _
  have h0b : w5.heap[w3.heap.size]? = some (.cells (List.replicate N (Value.int .i64 0)).toArray 3 (0, 0)) := by rw [hw5, ← hcur]; exact (heap_past _ _ _ (by simp)).trans (heap_at _ _ _ rfl)
  have h1b : w5.heap[w3.heap.size + 1]? = some (.cells #[.slice (some ⟨w3.heap.size, 0, none⟩) N N] 37 (0, 0)) := by rw [hw5]; exact heap_at _ _ _ (by simp)
  rw [← hw5]
  clear hw5 hmk hmk' hcur
  have hst : StAt w2.heap.size w5 (.slice (some ⟨w3.heap.size + 1, 0, none⟩) 1 1) [List.replicate N 0] := by
    refine ⟨[.slice (some ⟨w3.heap.size, 0, none⟩) N N], rfl, ⟨rfl, Or.inr ⟨w3.heap.size + 1, 1, _, rfl, by have := Hd.out.2.1; omega, h1b, Nat.le_refl _, by decide, rfl, rfl⟩⟩, fun j hj => ?_⟩
    obtain rfl : j = 0 := by simp at hj; omega
    refine ⟨by simp, Or.inr ⟨w3.heap.size, N, _, by simp, Nat.zero_le _, h0b, by simp, by unfold maxLen; omega, by simp, ?_⟩⟩
    simp
  have hloop : HLoop ⟨(N : Int), qs⟩ N ss wa w2.heap.size d.b 0 d (.slice (some ⟨w3.heap.size + 1, 0, none⟩) 1 1) [List.replicate N 0] w5 := by
    refine ⟨Hlaw.out.newW hc5, by rw [Hd.out.1]; exact HRel.start ⟨(N : Int), qs⟩ _, Hd.out.2.2, by have := congrArg HS.old Hd.out.1; exact this, hst, rfl, rfl, Nat.le_trans Hd.out.2.1 hc5.size⟩
  have Hloop := Lib.hid hloop
  have hBs : wa.heap.size ≤ w2.heap.size := Hc2.out.size
  clear hloop hst h0b h1b hc5 k0 lk Hlaw Hd Hm2 Hc2
  obtain ⟨db, hdb⟩ : ∃ n, n = d.b := ⟨_, rfl⟩
  rw [← hdb] at Hloop ⊢
  clear hdb
  go_wp2_with fail
  go_loopw [7, 27] (fun v jj wr => ∃ (k : Nat) (d : Hm) (rows : List (List Int)), k ≤ kk ∧ jj = .int .i64 (k : Nat) ∧ Hid (HLoop ⟨(N : Int), qs⟩ N ss wa w2.heap.size db k d v rows wr)) (fun _ jj _ => kk - (intOf jj).toNat)
  case atStart => exact ⟨0, d, _, by omega, rfl, Hloop⟩
  case round =>
    obtain ⟨k, d, rows, hk, rfl, HL⟩ := hrel
    by_cases hlt : k < kk
    · obtain ⟨hlaw, hrel, hrl, hold, hst, hlen, hb, hsz⟩ := HL.out
      have hi := I3s.kept Hs.out (hlaw.chg.p (S := fun _ => False)) (fun _ _ h => h)
      obtain ⟨g, off, rfl, hgp, r0, r1, r2⟩ := SlR.at hi k (by omega) (0, 0, 0)
      have htg : modI (ss.getD k (0, 0, 0)).2.1 (N : Int) = (tgt ss N k : Nat) := by
        have := (modI_bd (ss.getD k (0, 0, 0)).2.1 (N : Int) (by omega)).1
        unfold tgt; omega
      have htl : tgt ss N k < N := by
        have := (modI_bd (ss.getD k (0, 0, 0)).2.1 (N : Int) (by omega)).2
        omega
      obtain ⟨jn, hjn⟩ : ∃ n, n = tgt ss N k := ⟨_, rfl⟩
      rw [← hjn] at htg htl
      obtain ⟨xd, hxd⟩ : ∃ x, x = (ss.getD k (0, 0, 0)).1 := ⟨_, rfl⟩
      obtain ⟨xa, hxa⟩ : ∃ x, x = (ss.getD k (0, 0, 0)).2.1 := ⟨_, rfl⟩
      obtain ⟨xb, hxb⟩ : ∃ x, x = (ss.getD k (0, 0, 0)).2.2 := ⟨_, rfl⟩
      rw [← hxd] at r0
      rw [← hxa] at r1 htg
      rw [← hxb] at r2
      obtain ⟨gs, cs, u, hv, h1, h2, cu, hrow⟩ := hst.at_ (j := k) (by omega)
      rw [hlen] at hv h1
      subst hv
      have hrN : rows[k].length = N := rows_len (p := ⟨(N : Int), qs⟩) rfl hrel (by omega)
      obtain ⟨R, hR⟩ : ∃ R, R = rows.getD k [] := ⟨_, rfl⟩
      have hRe : rows[k] = R := by rw [hR, List.getD_eq_getElem?_getD, List.getElem?_eq_getElem (show k < rows.length by omega), Option.getD_some]
      rw [hRe] at hrow hrN
      have hm0 : wr.cell? ⟨w.heap.size, 0, none⟩ = some (.int .i64 (N : Int)) := cell_of_heap ((hlaw.chg.block _ (lt_of_obj Hba.out) (by simp)).trans Hba.out) rfl
      obtain ⟨w3', hw3⟩ : ∃ x, x = wr.alloc (.cells #[.int .i64 xd, .int .i64 xa, .int .i64 xb] 46) := ⟨_, rfl⟩
      have c3 : Chg [] wr w3' := by rw [hw3]; exact (Chg.refl [] wr).alloc _
      have hs3 : w3'.heap[wr.heap.size]? = some (.cells #[.int .i64 xd, .int .i64 xa, .int .i64 xb] 46 (0, 0)) := by rw [hw3]; exact heap_at _ _ _ rfl
      have cu3 := (c3.cell (lt_of_cell cu) (by simp)).trans cu
      have hm3 := (c3.cell (lt_of_cell hm0) (by simp)).trans hm0
      have s1 : w3'.cell? ⟨wr.heap.size, 1, none⟩ = some (.int .i64 xa) := cell_of_heap hs3 rfl
      have s2 : w3'.cell? ⟨wr.heap.size, 2, none⟩ = some (.int .i64 xb) := cell_of_heap hs3 rfl
      have hcl := cloneInts_any _ w3' u R (by omega) (by omega) (intsP_of_row (hrow.kept (S := fun _ => False) c3.p (fun _ _ h => h)))
      have Hcl := Lib.hid hcl
      have HS := Lib.hid (And.intro c3 (And.intro hs3 hjn))
      have HrN := Lib.hid hrN
      have Htg := Lib.hid htg
      have Htl := Lib.hid htl
      have HR := Lib.hid hR
      unfold maxLen at h2
      have hk1 : (k : Int) < kk := by omega
      clear hRe hR hlaw hrel hrl hold hst hlen hb hsz hi hgp hxd hxa hxb hrow hcl c3 hs3 hjn cu hm0 hrN htg htl
      go_upto_region 8 with fail
      rw [← hw3]
      clear hw3 r0 r1 r2
      go_wp2_with fail
      refine Hcl.out.mono ?_
      rintro e w4 ⟨v5, rfl, hrow5, c5⟩
      have hs4 := (c5.block _ (lt_of_obj HS.out.2.1) (by simp)).trans HS.out.2.1
      have hm4 := (c5.cell (lt_of_cell hm3) (by simp)).trans hm3
      have s1 : w4.cell? ⟨wr.heap.size, 1, none⟩ = some (.int .i64 xa) := cell_of_heap hs4 rfl
      have s2 : w4.cell? ⟨wr.heap.size, 2, none⟩ = some (.int .i64 xb) := cell_of_heap hs4 rfl
      obtain ⟨g5, cap5, hv5, hg5, hn5, hcap5⟩ : ∃ g5 cap5, v5 = .slice (some ⟨g5, 0, none⟩) N cap5 ∧ w3'.heap.size ≤ g5 ∧ N ≤ cap5 ∧ cap5 ≤ maxLen := by
        have hl5 := HrN.out
        rcases hrow5.2 with ⟨_, h0⟩ | ⟨g5, cap5, cur, e, hb5, _, h3, h4, _⟩
        · omega
        · exact ⟨g5, cap5, by rw [e, hl5], hb5, by omega, h4⟩
      subst hv5
      rw [HrN.out] at hrow5
      have f5 := World.ownsRow.frozenAt hrow5 jn
      obtain ⟨y5, hy5⟩ : ∃ y, w4.cell? ⟨g5, jn, none⟩ = some y := by
        have hl5 := HrN.out
        have := hrow5.cells (g := g5) rfl jn (.int .i64 (R.getD jn 0)) (by
          have htl := Htl.out
          rw [List.getElem?_map, List.getD_eq_getElem?_getD, List.getElem?_eq_getElem (show jn < R.length by omega)]
          rfl)
        rw [Addr.add_lit, Nat.zero_add] at this
        exact ⟨_, this⟩
      have Hc5 := Lib.hid (HS.out.1.trans c5)
      have Hrow5 := Lib.hid hrow5
      have Hg5 := Lib.hid hg5
      unfold maxLen at hcap5
      have htl := Htl.out
      have hjn1 : (jn : Int) < (N : Int) := by omega
      clear c5 hs4 hrow5 hg5 cu3 hm3
      go_wp2_with fail
      refine (mod_any xa N _ (by omega) (by omega)).mono ?_
      rintro e w' ⟨rfl, rfl⟩
      rw [Htg.out]
      go_wp2_with fail
      refine (mod_any xb 4 _ (by decide) (by decide)).mono ?_
      rintro e w' ⟨rfl, rfl⟩
      obtain ⟨nb, hnb⟩ : ∃ x, x = modI xb 4 := ⟨_, rfl⟩
      rw [← hnb]
      clear hnb
      go_upto_region 11 with fail
      have hst6 := World.ownsRow.stored Hrow5.out jn (.int .i64 nb)
      have e6 : (w4.setCell ⟨g5, jn, none⟩ (.int .i64 nb)).cell? ⟨g5, jn, none⟩ = some (.int .i64 nb) := World.cell?_setCell_same' _ _ _ (by rw [hy5]; rfl)
      obtain ⟨w6, hw6⟩ : ∃ x, x = w4.setCell ⟨g5, jn, none⟩ (.int .i64 nb) := ⟨_, rfl⟩
      have hc6 : Chg [] wr w6 := by
        rw [hw6]
        have hz := HS.out.1.size
        exact ChgP.toL ((Hc5.out.p (S := fun g => g ∈ ([] : List Nat))).comp ((ChgP.refl (fun g => g = g5) w4).setCell (p := ⟨g5, jn, none⟩) (Or.inl rfl) _) fun g hg => Or.inr (by have := Hg5.out; omega))
      have hrow6 : RowI w6 (.slice (some ⟨g5, 0, none⟩) N cap5) (R.set jn nb) := by
        have := hst6.1
        rw [← List.map_set, ← hw6] at this
        have hl : (R.set jn nb).length = N := by rw [List.length_set]; exact HrN.out
        unfold RowI
        rw [hl]
        exact ownsRow_base this (Nat.zero_le _)
      rw [← hw6] at e6 ⊢
      have Hc6 := Lib.hid hc6
      have Hrow6 := Lib.hid hrow6
      clear hst6 hw6 hc6 hrow6 y5 hy5 f5 s1 s2 hm4
      refine wp_region_U (fun w' => w'.cell? ⟨g5, jn, none⟩ = some (.int .i64 nb)) (fun _ => True) 7 (by kernel_rfl) ?_
      intro wd hwd
      have hcd : Chg [] w6 wd := by rw [hwd]; exact (Chg.refl _ _).drew
      have hSW := (hcd.cell (lt_of_cell e6) (by simp)).trans e6
      have Hcd := Lib.hid hcd
      clear hwd hcd e6
      refine anyU_pure (i := 0) (v := .pointer (some ⟨db, 0, none⟩)) rfl (by kernel_rfl) (fun _ _ _ h => h) (Or.inl ⟨by rfl, fun w' hS => by go_simp⟩) (fun _ => hSW) trivial ?_
      simp only [Act.put, List.setIfInBounds_toArray, List.set_cons_zero, List.set_cons_succ]
      refine anyU_pure (i := 1) (v := .int .i64 (jn : Int)) rfl (by kernel_rfl) (fun _ _ _ h => h) (Or.inl ⟨by rfl, fun w' hS => by go_simp⟩) (fun _ => hSW) trivial ?_
      simp only [Act.put, List.setIfInBounds_toArray, List.set_cons_zero, List.set_cons_succ]
      refine anyU_pure (i := 3) (v := .slice (some ⟨g5, 0, none⟩) N cap5) rfl (by kernel_rfl) (fun _ _ _ h => h) (Or.inl ⟨by rfl, fun w' hS => by go_simp⟩) (fun _ => hSW) trivial ?_
      simp only [Act.put, List.setIfInBounds_toArray, List.set_cons_zero, List.set_cons_succ]
      refine anyU_pure (i := 4) (v := .int .i64 (jn : Int)) rfl (by kernel_rfl) (fun _ _ _ h => h) (Or.inl ⟨by rfl, fun w' hS => by go_simp⟩) (fun _ => hSW) trivial ?_
      simp only [Act.put, List.setIfInBounds_toArray, List.set_cons_zero, List.set_cons_succ]
      refine anyU_pure (i := 5) (v := .pointer (some ⟨g5, jn, none⟩)) rfl (by kernel_rfl) (fun _ _ _ h => h) (Or.inl ⟨by rfl, fun w' hS => by go_simp⟩) (fun _ => hSW) trivial ?_
      simp only [Act.put, List.setIfInBounds_toArray, List.set_cons_zero, List.set_cons_succ]
      refine anyU_take (i := 6) (v := .int .i64 nb) rfl (by kernel_rfl) (fun _ _ _ h => h) (Or.inl ⟨by rfl, fun w' hS => by go_simp⟩) hSW trivial ?_
      simp only [Act.put, List.setIfInBounds_toArray, List.set_cons_zero, List.set_cons_succ]
      refine anyU_one (k := 2) (by kernel_rfl) rfl (fun K hK => ?_)
      go_simp
      refine (inputKeyA (jn : Int) wd).mono ?_
      rintro e w7 ⟨rfl, c7⟩
      have hS7 := (c7.cell (lt_of_cell hSW) (by simp)).trans hSW
      have Hc7 := Lib.hid (Hcd.out.trans c7)
      clear c7 hSW
      refine hK _ _ (fun _ => hS7) trivial ?_
      clear hK K
      refine anyU_one (k := 7) (by kernel_rfl) rfl (fun K hK => ?_)
      go_simp
      refine (number_any nb w7).mono ?_
      rintro e w8 ⟨a8, c8, rfl, hi8, cc8⟩
      have Hc8 := Lib.hid (Hc7.out.trans cc8)
      have Hi8 := Lib.hid hi8
      clear cc8 hi8 hS7
      refine hK _ _ (fun h => by simp at h) trivial ?_
      clear hK K
      refine anyU_one (k := 8) (by kernel_rfl) rfl (fun K hK => ?_)
      go_simp
      refine hK _ _ (fun h => by simp at h) trivial ?_
      clear hK K
      refine anyU_one (k := 9) (by kernel_rfl) rfl (fun K hK => ?_)
      go_simp
      refine hK _ _ (fun h => by simp at h) trivial ?_
      clear hK K
      refine anyU_one (k := 10) (by kernel_rfl) rfl (fun K hK => ?_)
      go_simp
      obtain ⟨w9, hw9⟩ : ∃ x, x = w8.alloc (.cells #[.int .i64 0, .int .i64 (jn : Int), .int .i64 0, .slice a8 1 c8, .string ⟨#[]⟩] 51) := ⟨_, rfl⟩
      have hc9 : Chg [] w8 w9 := by rw [hw9]; exact (Chg.refl _ _).alloc _
      have hin9 : InpAt w9 w8.heap.size 0 jn 0 a8 1 c8 := by
        have hb : w9.heap[w8.heap.size]? = some (.cells #[.int .i64 0, .int .i64 (jn : Int), .int .i64 0, .slice a8 1 c8, .string ⟨#[]⟩] 51 (0, 0)) := by rw [hw9]; exact heap_at _ _ _ rfl
        exact ⟨cell_of_heap hb rfl, cell_of_heap hb rfl, cell_of_heap hb rfl, cell_of_heap hb rfl, cell_of_heap hb rfl⟩
      rw [← hw9]
      have hL6 := HL.out.newW Hc6.out
      have hL9 := hL6.newW (Hc8.out.trans hc9)
      have hlat := hL9.rel.lat
      have hlen := hL9.len
      have hvo := hL9.rel.versOk (by omega) (0, (jn : Int), 0)
      have hgM : ¬ d.M w8.heap.size := fun hm => by have := hL6.law.mem.ltM hm; have := Hc8.out.size; omega
      have hcom := commit_any w9 d jn 0 w8.heap.size 0 a8 c8 [nb] hL9.law.mem hL9.law.mu (by have := Htl.out; unfold Inp.QKok Inp.In64; simp only; omega) hvo.1 hvo.2 (by have e : d.lat = d.pl.lat := rfl; omega) hin9 hgM (Hi8.out.same hc9) (by simp)
      rw [HL.out.b] at hcom
      have Hcom := Lib.hid hcom
      have HL9 := Lib.hid hL9
      have Hrow9 := Lib.hid (hrow_new Hrow6.out (Hc8.out.trans hc9))
      clear hc9 hin9 hw9 hL6 hL9 hlat hlen hvo hgM hcom
      refine Hcom.out.mono ?_
      rintro e wA ⟨rfl, d', ha, hpl', hmu', hrl'⟩
      have hrowA : RowI wA (.slice (some ⟨g5, 0, none⟩) N cap5) (R.set jn nb) := Hrow9.out.kept ha.chg fun g hg => ne_tyM (by decide) HL9.out.law.mem (tyAt_own Hrow9.out hg)
      have HA := Lib.hid (And.intro ha (And.intro hpl' (And.intro hmu' hrl')))
      have HrowA := Lib.hid hrowA
      clear ha hpl' hmu' hrl' hrowA
      refine hK _ _ (fun h => by simp at h) trivial ?_
      clear hK K
      refine anyU_done (by kernel_rfl) ?_
      obtain ⟨wB, hwB⟩ : ∃ x, x = wA.alloc (.cells #[.slice (some ⟨g5, 0, none⟩) N cap5] 37) := ⟨_, rfl⟩
      have hcB : Chg [] wA wB := by rw [hwB]; exact (Chg.refl _ _).alloc _
      have hbB : wB.heap[wA.heap.size]? = some (.cells #[.slice (some ⟨g5, 0, none⟩) N cap5] 37 (0, 0)) := by rw [hwB]; exact heap_at _ _ _ rfl
      have haB := HA.out.1.thenNew hcB
      have hstB := HL9.out.st.after HL9.out.law.mem haB
      have hszB : w2.heap.size ≤ wB.heap.size := Nat.le_trans HL9.out.sz haB.chg.size
      obtain ⟨aC, cC, wC, hrunC, hstC, hchC⟩ := hstB.push (hrow_new HrowA.out hcB) hbB (by have := HL9.out.len; omega) hszB 29
      have hnext := HL9.out.next Hp.out (jn := jn) (x := nb) hBs (by have := Htl.out; simp only; omega) HS.out.2.2.symm (by omega) haB HA.out.2.1 HA.out.2.2.1 HA.out.2.2.2 hchC (by rw [← HR.out]; exact hstC)
      rw [HL9.out.len] at hrunC hnext
      have Hnext := Lib.hid hnext
      clear hcB hbB haB hstB hszB hstC hchC hnext
      rw [hwB] at hrunC
      have HrunC := Lib.hid hrunC
      clear hwB hrunC
      go_wp2_with (at_builtin; refine wpList_append_run rfl _ _ _ rfl _ _ _ _ rfl rfl HrunC.out ?_)
      exact ⟨⟨k + 1, d', _, by omega, by go_num, Hnext⟩, by simp [intOf]; omega⟩
    · obtain rfl : k = kk := by omega
      have hL := HL.out
      have Hl := Lib.hid (show w.heap.size ≤ wr.heap.size from Nat.le_trans Hc.out.size hL.law.chg.size)
      clear hL
      go_wp2_with fail
      go_ret2
      have hL := HL.out
      exact ⟨d, _, rows, _, by rw [hL.b]; rfl, hL.law.before Hc.out, hL.rel, hL.rl, hL.old, hL.st, by rw [hL.len]; have := Hkk.out; omega⟩
end Go.Proofs.Ytggiddhhbilcjaa.Sn
