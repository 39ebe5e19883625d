/- textedit.Apply, docsync.apply. -/
import Derived.Test.YtihpcpcfccamoaaDocA
import Derived.Test.YtihpcpcfccamoaaStill
namespace Go.Proofs.Ytihpcpcfccamoaa
open Go.RowKit
set_option linter.unusedVariables false
set_option linter.unusedSimpArgs false
theorem lt_of_isBld {B b : Nat} {bs : List Value} {w : World} (h : IsBld B b bs w) : b < w.heap.size := h.elim (fun h => h.lt) (fun h => h.lt)
theorem chgP_new {w a b : World} {S : Nat → Prop} (hc : ChgP (fun _ => False) w a) (h : ChgP S a b) (hS : ∀ k, S k → w.heap.size ≤ k) : Chg [] w b :=
  ((hc.comp h fun x hx => Or.inr (hS x hx)).mono (T := fun k => k ∈ []) (fun _ h => h.elim)).toL
set_option maxRecDepth 100000 in
set_option maxHeartbeats 4000000 in
theorem applyEdits_no (p : Nat → Prop) (s : ByteArray) (v : Value) (E : List Edit) (w : World) (hE : Eds p w v E) (hF : Fits E) (hv : valL s.size E ≠ 0) :
    Calls Try.prog 35 #[.string s, v] w fun e w' => e = .returned (.tuple #[.string ⟨#[]⟩, .int .i64 (valL s.size E)]) ∧ Chg [] w w' := by
  obtain ⟨a, cap, rfl, hml, hcap⟩ := hE.shape
  have hv2 := (validate_any p s _ E w hE hF)
  obtain ⟨q, hq⟩ : ∃ q, valL s.size E = q := ⟨_, rfl⟩
  rw [hq] at hv hv2 ⊢
  have hb : (q == 0) = false := by simpa using hv
  clear hq
  go_enter Try.func35, Try.ntmps35
  go_wp2_with fail
  refine hv2.mono ?_
  rintro e w1 ⟨rfl, c1⟩
  clear hv2
  go_wp2_with fail
  go_ret2
  exact ⟨rfl, c1⟩
set_option maxRecDepth 100000 in
set_option maxHeartbeats 4000000 in
theorem applyEdits_ok (p : Nat → Prop) (s : ByteArray) (v : Value) (E : List Edit) (w : World) (hE : Eds p w v E) (hF : Fits E) (hv : valL s.size E = 0) :
    Calls Try.prog 35 #[.string s, v] w fun e w' => e = .returned (.tuple #[.string (applyT s E), .int .i64 0]) ∧ Chg [] w w' := by
  obtain ⟨a, cap, rfl, hml, hcap⟩ := hE.shape
  unfold maxLen at hml
  have HE := Lib.hid hE
  have HF := Lib.hid hF
  clear hE hF hcap
  go_enter Try.func35, Try.ntmps35
  go_wp2_with fail
  refine (validate_any p s _ E w HE.out HF.out).mono ?_
  rintro e w1 ⟨rfl, c1⟩
  rw [hv]
  · have Hv := Lib.hid hv
    have C1 := Lib.hid c1
    obtain ⟨z1, z2, z3, z4⟩ := val_end s E hv
    have Z := Lib.hid (And.intro z1 (And.intro z2 z3))
    clear hv c1 z1 z2 z3
    have HB := Lib.hid (show IsBld w1.heap.size w1.heap.size [] (w1.alloc (.cells #[.pointer none, .slice none 0 0] 93 (0, 0))) from
      Or.inl ⟨Nat.le_refl _, .slice none 0 0, heap_at _ _ _ rfl, World.ownsRow_nil _ _ _ _, by simp [Value.ownBlock]⟩)
    go_wp2_with fail
    go_loopw [8, 19] (fun oo jj wr => ∃ k : Nat, k ≤ E.length ∧ jj = .int .i64 (k : Nat) ∧ oo = .int .i64 (apSt s.data.toList (E.take k)).2 ∧ IsBld w1.heap.size w1.heap.size (Lib.byteCells (apSt s.data.toList (E.take k)).1) wr ∧ Chg [] w1 wr) (fun _ jj _ => E.length - (intOf jj).toNat)
    case atStart => exact ⟨0, by omega, rfl, rfl, HB.out, (Chg.refl _ _).alloc _⟩
    case round =>
      obtain ⟨k, hk, rfl, rfl, hb, hc⟩ := hrel
      have Hc := Lib.hid hc
      have Hb := Lib.hid hb
      have hwz := hc.size
      clear hb hc
      by_cases hlt : k < E.length
      · have hk1 : (k : Int) < E.length := by omega
        obtain ⟨g, off, rfl, hg, r0, r1, r2⟩ := HE.out.at k hlt Edit.zero
        obtain ⟨g0, g1, g2, g3, g4, g5⟩ := val_step s E Hv.out k hlt
        obtain ⟨x, hx⟩ : ∃ x, E.getD k Edit.zero = x := ⟨_, rfl⟩
        have hnx : apSt s.data.toList (E.take (k + 1)) = astep s.data.toList (apSt s.data.toList (E.take k)) x := by rw [take_step E k hlt, apSt_snoc, hx]
        rw [hx] at r0 r1 r2 g1 g2 g3 g4
        obtain ⟨⟨acc, o⟩, hq⟩ : ∃ q, apSt s.data.toList (E.take k) = q := ⟨_, rfl⟩
        have Hb' := Hb.out
        rw [hq] at g0 g1 g5 hnx Hb' ⊢
        simp only at g0 g1 g5 Hb' ⊢
        have HB2 := Lib.hid Hb'
        have Hnx := Lib.hid hnx
        have lr := lt_of_cell r0
        have p0 := (C1.out.cell lr (by simp)).trans r0
        have p1 := (C1.out.cell (p := ⟨g, off + k * 3 + 1, none⟩) lr (by simp)).trans r1
        have p2 := (C1.out.cell (p := ⟨g, off + k * 3 + 2, none⟩) lr (by simp)).trans r2
        have lp := lt_of_cell p0
        replace p0 := (Hc.out.cell lp (by simp)).trans p0
        replace p1 := (Hc.out.cell (p := ⟨g, off + k * 3 + 1, none⟩) lp (by simp)).trans p1
        replace p2 := (Hc.out.cell (p := ⟨g, off + k * 3 + 2, none⟩) lp (by simp)).trans p2
        clear r0 r1 r2 lr hx hq Hb' hnx
        go_wp2_with fail
        refine wp_region_readsQ 8 (by kernel_rfl) (by kernel_rfl) ?_
        intro wd hwd
        simp only [List.take_succ_cons, List.take_zero, List.drop_succ_cons, List.drop_zero]
        have hbk : wd.heap[wr.heap.size]? = some (.cells #[.int .i64 x.s, .int .i64 x.e, .string x.t] 56 (0, 0)) := by rw [hwd]; exact heap_at _ _ _ rfl
        have d0 : wd.cell? ⟨wr.heap.size, 0, none⟩ = some (.int .i64 x.s) := cell_of_heap hbk rfl
        have d1 : wd.cell? ⟨wr.heap.size, 1, none⟩ = some (.int .i64 x.e) := cell_of_heap hbk rfl
        have d2 : wd.cell? ⟨wr.heap.size, 2, none⟩ = some (.string x.t) := cell_of_heap hbk rfl
        have gxs : x.s ≤ (s.size : Int) := by omega
        have hcd : Chg [] wr wd := by rw [hwd]; exact ((Chg.refl _ _).alloc _).drew
        have hbd : IsBld w1.heap.size w1.heap.size (Lib.byteCells acc) wd := HB2.out.same hcd
        have hpz : (s.extract o.toNat x.s.toNat ++ x.t).size ≤ 4000 := by rw [ByteArray.size_append, ByteArray.size_extract]; omega
        have Hcd := Lib.hid hcd
        have Hbd := Lib.hid hbd
        have Hbk := Lib.hid hbk
        have hwz2 := hcd.size
        clear hwd hcd hbd hbk
        repeat go_big_quiet_step (fail)
        refine wpQuiet_nil ?_
        go_wp2_with fail
        refine (writeString_any w1.heap.size w1.heap.size (Lib.byteCells acc) _ wd Hbd.out (by rw [Lib.byteCells_length]; omega) (by omega)).mono ?_
        rintro e w6 ⟨rfl, hb6, c6⟩
        have hne : ¬ bldSet w1.heap.size w1.heap.size wd wr.heap.size := fun h => h.2.elim (fun e => by have := Hb.out; have := lt_of_isBld this; omega) (fun hn => hn (NotE.of_heap Hbk.out (fun c fr => by simp)))
        have d3 := (c6.cell (lt_of_cell d1) hne).trans d1
        have hc6 : Chg [] w1 w6 := chgP_new ((Hc.out.trans Hcd.out).p) c6 (fun k hk => hk.1)
        have Hc6 := Lib.hid hc6
        have Hb6 := Lib.hid hb6
        clear c6 hc6 hb6
        go_wp2_with fail
        refine ⟨⟨k + 1, by omega, by go_num, ?_, ?_, Hc6.out⟩, by simp [intOf]; omega⟩
        · rw [Hnx.out]; rfl
        · rw [Hnx.out]
          have := Hb6.out
          rw [Lib.strCells_eq, piece_eq s o x.s x.t g0 g1 gxs, ← Lib.byteCells_append] at this
          exact this
      · obtain rfl : k = E.length := by omega
        have hk1 : ¬ ((E.length : Int) < E.length) := by omega
        rw [List.take_length]
        have hbz := Hb.out
        rw [List.take_length] at hbz
        have hap : applyT s E = ⟨((apSt s.data.toList E).1 ++ s.data.toList.drop (apSt s.data.toList E).2.toNat).toArray⟩ := rfl
        obtain ⟨y1, y2, y3⟩ := Z.out
        obtain ⟨⟨acc, o⟩, hq⟩ : ∃ q, apSt s.data.toList E = q := ⟨_, rfl⟩
        rw [hq] at hbz hap y1 y2 y3 ⊢
        simp only at hbz hap y1 y2 y3 ⊢
        have HB3 := Lib.hid hbz
        have Hap := Lib.hid hap
        have hpz : (s.extract o.toNat s.size).size ≤ 2000 := by rw [ByteArray.size_extract]; omega
        clear hbz hap hq
        go_wp2_with fail
        refine (writeString_any w1.heap.size w1.heap.size (Lib.byteCells acc) _ _ HB3.out (by rw [Lib.byteCells_length]; omega) (by omega)).mono ?_
        rintro e w6 ⟨rfl, hb6, c6⟩
        have hc6 : Chg [] w1 w6 := chgP_new Hc.out.p c6 (fun k hk => hk.1)
        have hz6 := c6.size
        have hes : (s.extract o.toNat s.size).data.toList = s.data.toList.drop o.toNat := by
          rw [Lib.extract_data, List.take_of_length_le]
          rw [List.length_drop, show s.data.toList.length = s.size from Array.length_toList]
          omega
        rw [Lib.strCells_eq, hes, ← Lib.byteCells_append] at hb6
        have Hb6 := Lib.hid hb6
        have Hc6 := Lib.hid hc6
        clear hb6 hc6 c6 hes
        go_wp2_with fail
        refine (Try.Builder_String_any w1.heap.size w1.heap.size _ w6 Hb6.out (by omega)).mono ?_
        rintro e w7 ⟨rfl, c7⟩
        go_wp2_with fail
        go_ret2
        exact ⟨by rw [Hap.out]; rfl, C1.out.trans (chg_below Hc6.out c7 (Nat.le_refl _))⟩
end Go.Proofs.Ytihpcpcfccamoaa
