/- The law's closure: what was flushed is counted. -/
import Derived.Test.YtiklgipcgdgkoaaDoorJsN
namespace Go.Proofs.YtiklgipcgdgkoaaDoor.Jv
open Go.RowKit Go.ChangeMaps Go.MapKept
set_option linter.unusedVariables false
set_option linter.unusedSimpArgs false
def inc1 (A : List Int) (k : Nat) : List Int := A.set k (A.getD k 0 + 1)
def incs (A : List Int) (ms : List Qm) : List Int := ms.foldl (fun A m => inc1 A m.i.toNat) A
theorem inc1_len (A : List Int) (k : Nat) : (inc1 A k).length = A.length := by simp [inc1]
theorem incs_len : ∀ (ms : List Qm) (A : List Int), (incs A ms).length = A.length
  | [], A => rfl
  | m :: ms, A => by
    show (incs (inc1 A m.i.toNat) ms).length = _
    rw [incs_len ms, inc1_len]
theorem inc1_get (A : List Int) (k i : Nat) (hi : i < A.length) : (inc1 A k).getD i 0 = A.getD i 0 + if k = i then 1 else 0 := by
  unfold inc1
  rw [List.getD_eq_getElem?_getD, List.getElem?_set]
  by_cases h : k = i
  · subst h; simp [hi]
  · simp [h]
def cntQ (ms : List Qm) (i : Nat) : Nat := ms.countP fun m => decide (m.i = (i : Int))
theorem incs_get : ∀ (ms : List Qm) (A : List Int) (i : Nat), i < A.length → (∀ m ∈ ms, 0 ≤ m.i) → (incs A ms).getD i 0 = A.getD i 0 + (cntQ ms i : Nat)
  | [], A, i, hi, _ => by simp [incs, cntQ]
  | m :: ms, A, i, hi, h => by
    show (incs (inc1 A m.i.toNat) ms).getD i 0 = _
    rw [incs_get ms _ i (by rw [inc1_len]; exact hi) fun m' hm => h m' (List.mem_cons_of_mem _ hm), inc1_get A _ i hi]
    have h0 := h m List.mem_cons_self
    unfold cntQ
    rw [List.countP_cons]
    by_cases he : m.i = (i : Int)
    · rw [if_pos (by omega), if_pos (by simpa using he)]; omega
    · rw [if_neg (by omega), if_neg (by simpa using he)]; omega
theorem incs_snoc (A : List Int) (qs : List Qm) (n : Nat) (hn : n < qs.length) : incs A (qs.take (n + 1)) = inc1 (incs A (qs.take n)) qs[n].i.toNat := by
  unfold incs
  rw [List.take_succ_eq_append_getElem hn, List.foldl_append]
  rfl
theorem Six.set {w : World} {g : Nat} {A : List Int} (h : Six w g A) (d : Nat) (v : Int) : Six (w.setCell ⟨g, d, none⟩ (.int .i64 v)) g (A.set d v) := by
  refine ⟨?_, by rw [List.length_set]; exact h.2⟩
  rw [heap_setCell_same (i := d) h.1]
  simp [List.map_set]
theorem Six.kept {S : Nat → Prop} {w w' : World} {g : Nat} {A : List Int} (h : Six w g A) (hc : ChgP S w w') (hg : ¬ S g) : Six w' g A := ⟨(hc.block g (lt_of_obj h.1) hg).trans h.1, h.2⟩
theorem Six.fz {w : World} {g : Nat} {A : List Int} (h : Six w g A) (i : Nat) : w.frozen? ⟨g, i, none⟩ = false := frozen_of_heap (i := i) h.1
theorem Six.sf {w w' : World} {base sb g : Nat} {A : List Int} (h : Six w g A) (hc : ChgP (SF base sb w) w w') (hg : g ≠ sb) : Six w' g A := ⟨sf_box hc h.1 (by decide) hg, h.2⟩
/-- the law's boxes: the server's, and that of the slice of answers -/
structure Bx (w : World) (sb bs ba ga : Nat) : Prop where
  s : w.heap[bs]? = some (.cells #[.pointer (some ⟨sb, 0, none⟩)] 41 (0, 0))
  a : w.heap[ba]? = some (.cells #[.slice (some ⟨ga, 0, none⟩) 6 6] 43 (0, 0))
  ns : bs ≠ sb ∧ ba ≠ sb ∧ ga ≠ sb
  na : bs ≠ ga ∧ ba ≠ ga
theorem Bx.kept {S : Nat → Prop} {w w' : World} {sb bs ba ga : Nat} (h : Bx w sb bs ba ga) (hc : ChgP S w w') (hS : ¬ S bs ∧ ¬ S ba) : Bx w' sb bs ba ga := ⟨(hc.block _ (lt_of_obj h.s) hS.1).trans h.s, (hc.block _ (lt_of_obj h.a) hS.2).trans h.a, h.ns, h.na⟩
theorem Bx.sf {w w' : World} {base sb bs ba ga : Nat} (h : Bx w sb bs ba ga) (hc : ChgP (SF base sb w) w w') : Bx w' sb bs ba ga := ⟨sf_box hc h.s (by decide) h.ns.1, sf_box hc h.a (by decide) h.ns.2.1, h.ns, h.na⟩
theorem Bx.new {w w' : World} {sb bs ba ga : Nat} (h : Bx w sb bs ba ga) (hc : Chg [] w w') : Bx w' sb bs ba ga := h.kept (S := fun _ => False) hc.p ⟨fun h => h, fun h => h⟩
/-- what the closure may change -/
def SG (base sb ga : Nat) (w : World) (g : Nat) : Prop := SF base sb w g ∨ g = ga
def CloPost (base sb ga : Nat) (js : List Jb) (qs : List Qm) (A : List Int) (w : World) (e : Ending) (w' : World) : Prop := e = .returned (.bool true) ∧ (∃ ja jn, Srv w' base sb ja js.length jn none 0 0 js []) ∧ Six w' ga (incs A qs) ∧ ChgP (SG base sb ga w) w w'
def QsOk (qs : List Qm) : Prop := ∀ m ∈ qs, (0 ≤ m.i ∧ m.i < 6) ∧ (m.k = 3 ∨ m.k = 4)
set_option maxRecDepth 100000 in
set_option maxHeartbeats 8000000 in
theorem flushClo_any (w : World) (base sb jl jn ql qn bs ba ga : Nat) (ja qa : Option Addr) (js : List Jb) (qs : List Qm) (A : List Int) (h : Srv w base sb ja jl jn qa ql qn js qs) (hq : qs.length ≤ 1000) (hB : Bx w sb bs ba ga) (hA : Six w ga A) (hQ : QsOk qs) (hb : ∀ i, i < 6 → 0 ≤ A.getD i 0 ∧ A.getD i 0 ≤ 1000) :
    Calls Tryd.prog 16 #[.pointer (some ⟨bs, 0, none⟩), .pointer (some ⟨ba, 0, none⟩)] w (CloPost base sb ga js qs A w) := by
  have HF := Lib.hid (flush_any w base sb jl jn ql qn ja qa js qs h hq)
  have HB := Lib.hid hB
  have HA := Lib.hid hA
  have HQ := Lib.hid hQ
  have Hb := Lib.hid hb
  have s0 : w.cell? ⟨bs, 0, none⟩ = some (.pointer (some ⟨sb, 0, none⟩)) := cell_of_heap hB.s rfl
  have ls := lt_of_cell s0
  clear h hB hA hQ hb
  go_enter Tryd.func16, Tryd.ntmps16
  go_wp2_with fail
  refine HF.out.mono ?_
  rintro e w2 ⟨ja2, jn2, qa2, qn2, rfl, hF⟩
  have HB2 := Lib.hid (HB.out.sf hF.2.2)
  have HA2 := Lib.hid (HA.out.sf hF.2.2 HB.out.ns.2.2)
  have HF2 := Lib.hid hF
  clear hF s0 ls
  go_wp2_with fail
  go_loopw [10] (fun i wr => ∃ n : Nat, n ≤ qs.length ∧ i = .int .i64 (n : Nat) ∧ Hid (Six wr ga (incs A (qs.take n)) ∧ ChgP (fun g => g = ga) w2 wr)) (fun i _ => qs.length - (intOf i).toNat)
  case atStart => exact ⟨0, by omega, rfl, Lib.hid ⟨by simpa [incs] using HA2.out, ChgP.refl _ _⟩⟩
  case round =>
    obtain ⟨n, hn, rfl, Hw⟩ := hrel
    have hBr := HB2.out.kept Hw.out.2 ⟨HB.out.na.1, HB.out.na.2⟩
    by_cases hlt : n < qs.length
    · have hown : wr.ownsRow base 27 9 (.slice qa2 qs.length qn2) qs.length (qs.flatMap qc) := ownsRow_kept HF2.out.2.1 fun g hg hl => Hw.out.2.block g hl fun e => by
        subst e
        obtain ⟨cs, fr, hb⟩ := own_type HF2.out.2.1 hg
        rw [HA2.out.1] at hb
        simp only [Option.some.injEq, Obj.cells.injEq] at hb
        exact absurd hb.2.1 (by decide)
      obtain ⟨g, hg, gb, lg, hcell⟩ := own_cells qc_len hown rfl hlt (by decide)
      subst hg
      have hcap : qs.length ≤ qn2 := by
        rcases hown.2 with ⟨hv, hx⟩ | ⟨g', cap', cur, hv, hge, hh, hnc, _⟩
        · cases hv
        · cases hv; omega
      have hsn := incs_snoc A qs n hlt
      obtain ⟨⟨hi0, hi6⟩, hk⟩ := HQ.out qs[n] (List.getElem_mem hlt)
      have hAn := Hw.out.1
      have hget := fun i (hi : i < 6) => incs_get (qs.take n) A i (by rw [HA.out.2]; exact hi) fun m hm => (HQ.out m (List.mem_of_mem_take hm)).1.1
      generalize qs[n] = m at hcell hsn hi0 hi6 hk
      obtain ⟨mk, mi, mc, mt⟩ := m
      simp only at hsn hi0 hi6 hk
      obtain ⟨d, rfl⟩ : ∃ d : Nat, mi = d := ⟨mi.toNat, by omega⟩
      have hd : d < 6 := by omega
      have q0 := hAn.cell hd
      have qf := hAn.fz d
      have lga := lt_of_cell q0
      have hx : 0 ≤ (incs A (qs.take n)).getD d 0 ∧ (incs A (qs.take n)).getD d 0 ≤ 3000 := by
        have h1 := Hb.out d hd
        have h2 := hget d hd
        have h3 : cntQ (qs.take n) d ≤ n := by
          unfold cntQ
          refine Nat.le_trans List.countP_le_length ?_
          rw [List.length_take]; omega
        omega
      obtain ⟨x, hxe⟩ : ∃ x, x = (incs A (qs.take n)).getD d 0 := ⟨_, rfl⟩
      rw [← hxe] at q0 hx
      obtain ⟨hx0, hx1⟩ := hx
      have Hnx : Hid (incs A (qs.take (n + 1)) = (incs A (qs.take n)).set d (x + 1)) := Lib.hid (by
        rw [hsn, hxe, Int.toNat_natCast]; rfl)
      have m0 : wr.cell? ⟨g, n * 9, none⟩ = some (.int .i64 mk) := hcell 0 (by decide)
      have m1 : wr.cell? ⟨g, n * 9 + 1, none⟩ = some (.int .i64 d) := hcell 1 (by decide)
      have m2 : wr.cell? ⟨g, n * 9 + 2, none⟩ = some (.int .i64 mc) := hcell 2 (by decide)
      have m3 : wr.cell? ⟨g, n * 9 + 3, none⟩ = some (.string mt) := hcell 3 (by decide)
      have m4 : wr.cell? ⟨g, n * 9 + 4, none⟩ = some (.int .i64 0) := hcell 4 (by decide)
      have m5 : wr.cell? ⟨g, n * 9 + 5, none⟩ = some (.int .i64 0) := hcell 5 (by decide)
      have m6 : wr.cell? ⟨g, n * 9 + 6, none⟩ = some (.string ⟨#[]⟩) := hcell 6 (by decide)
      have m7 : wr.cell? ⟨g, n * 9 + 7, none⟩ = some (.slice none 0 0) := hcell 7 (by decide)
      have m8 : wr.cell? ⟨g, n * 9 + 8, none⟩ = some (.slice none 0 0) := hcell 8 (by decide)
      obtain ⟨w3, hw3⟩ : ∃ y, y = wr.alloc (.cells #[.int .i64 mk, .int .i64 (d : Nat), .int .i64 mc, .string mt, .int .i64 0, .int .i64 0, .string ⟨#[]⟩, .slice none 0 0, .slice none 0 0] 27) := ⟨_, rfl⟩
      obtain ⟨mb, hmb⟩ : ∃ y, y = wr.heap.size := ⟨_, rfl⟩
      have hc3 : Chg [] wr w3 := by rw [hw3]; exact (Chg.refl _ _).alloc _
      have hb3 : w3.heap[mb]? = some (.cells #[.int .i64 mk, .int .i64 (d : Nat), .int .i64 mc, .string mt, .int .i64 0, .int .i64 0, .string ⟨#[]⟩, .slice none 0 0, .slice none 0 0] 27 (0, 0)) := by rw [hw3, hmb]; exact heap_at _ _ _ rfl
      have Hc3 := Lib.hid hc3
      have hn1 : (n : Int) < qs.length := by omega
      have hn0 : (0 : Int) ≤ (n : Int) := by omega
      clear hcell hget hsn hxe hown hAn
      go_upto_region 6 with fail
      rw [← hw3, ← hmb]
      clear hw3 hmb m0 m1 m2 m3 m4 m5 m6 m7 m8 lg
      have m0 : w3.cell? ⟨mb, 0, none⟩ = some (.int .i64 mk) := cell_of_heap hb3 rfl
      have m1 : w3.cell? ⟨mb, 1, none⟩ = some (.int .i64 d) := cell_of_heap hb3 rfl
      have lm := lt_of_cell m0
      have a0 : w3.cell? ⟨ba, 0, none⟩ = some (.slice (some ⟨ga, 0, none⟩) 6 6) := cell_of_heap (hBr.new hc3).a rfl
      have la := lt_of_cell a0
      have q03 := (hc3.cell (lt_of_cell q0) (by simp)).trans q0
      have qf3 := (hc3.frozen (p := ⟨ga, d, none⟩) lga (by simp)).trans qf
      have lg3 := lt_of_cell q03
      have d1 : decide ((d : Int) < 0) = false := decide_eq_false (by omega)
      have d2 : decide ((d : Int) ≥ 6) = false := decide_eq_false (by omega)
      have d3 : (0 : Int) ≤ (d : Int) := by omega
      have d4 : (d : Int) < 6 := by omega
      clear hc3 hb3 q0 qf lga hBr
      have Hend : Hid (Six (w3.setCell ⟨ga, d, none⟩ (.int .i64 (x + 1))) ga (incs A (qs.take (n + 1))) ∧ ChgP (fun g => g = ga) w2 (w3.setCell ⟨ga, d, none⟩ (.int .i64 (x + 1)))) := Lib.hid ⟨by
        rw [Hnx.out]
        exact (Hw.out.1.kept (S := fun _ => False) Hc3.out.p (fun h => h)).set d (x + 1), (Hw.out.2.new Hc3.out).setCell (p := ⟨ga, d, none⟩) (Or.inl rfl) _⟩
      rcases hk with rfl | rfl
      · go_wp2_with fail
        exact ⟨⟨n + 1, by omega, by go_num, Hend⟩, by simp [intOf]; omega⟩
      · go_wp2_with fail
        exact ⟨⟨n + 1, by omega, by go_num, Hend⟩, by simp [intOf]; omega⟩
    · obtain rfl : n = qs.length := by omega
      have hn1 : ¬ ((qs.length : Int) < qs.length) := by omega
      clear hBr
      go_wp2_with fail
      go_ret
      have hA' := Hw.out.1
      rw [List.take_length] at hA'
      refine ⟨rfl, ⟨ja2, jn2, HF2.out.1.kept Hw.out.2 fun g hg => ?_⟩, hA', ?_⟩
      · subst hg
        exact ⟨HB.out.ns.2.2, not_jq HA2.out.1 (by decide)⟩
      · exact (HF2.out.2.2.mono fun g hg => Or.inl hg).comp Hw.out.2 fun g hg => Or.inl (Or.inr hg)
end Go.Proofs.YtiklgipcgdgkoaaDoor.Jv
