/- Part of the proof of topCrashedLaw_holds. -/
import Derived.Handed
import Derived.Lib.LaidU8T
import Derived.MakeChecks
import Derived.Shelf.Strings.Shaped
import Derived.Test.YtjlknaahpjiibaaGreatDoorQaw
import Derived.Test.YtjlknaahpjiibaaGreatDoorQax
import Derived.Test.YtjlknaahpjiibaaGreatDoorQbr
import Derived.Test.YtjlknaahpjiibaaGreatDoorQbt
import Derived.Test.YtjlknaahpjiibaaGreatDoorRows
namespace Go.Proofs.YtjlknaahpjiibaaGreatDoor
open Go.ChangeShapes Go.WideShapes Go.ChangeAt Go.RowKit Go.Deep
set_option linter.unusedVariables false
set_option linter.unusedSimpArgs false
theorem Tryz.laidOut : laidOutB Tryz.prog = true := by kernel_rfl
theorem Tryz.own : ownKnob Tryz.prog.godebug = none := by kernel_rfl
theorem Tryz.cellsInt : Tryz.prog.cellsOf 3 = 1 := by kernel_rfl
theorem Tryz.cellsString : Tryz.prog.cellsOf 9 = 1 := by kernel_rfl
theorem Tryz.cellsEv : Tryz.prog.cellsOf 36 = 3 := by kernel_rfl
theorem ml_shaped {W : World} (h : W.ShapedOpen Tryz.prog) : Fr.ML W :=
 Go.Proofs.cell_of_shapedOpen_int (zero := #[.int .i64 0]) (t := 3) h (of_decide_eq_true (by kernel_rfl)) (by kernel_rfl) rfl (by kernel_rfl) (by kernel_rfl) Tryz.underlying3
section
variable {H : Type} {enc : TypeId × Value → H} {W : World}
theorem open_evs {fuel : Nat} {cs : List Value} {x : DataW H × List MemPlace} (h : DataW.trod enc Tryz.prog W 0 (fun _ => true) true fuel 23 cs = some x) :
 ∃ v xs, cs = [v] ∧ F.EvsP (fun g => g < W.heap.size) W v xs ∧ ∀ e ∈ xs, e.2.1.size ≤ maxLen := by
 obtain ⟨a, cap, xs, rfl, h1, h2, h3⟩ := open_sl Tryz.underlying23 Tryz.cellsEv (fun (z : F.FEv) ad => ad.spot = none ∧ F.rdEv W ad z ∧ z.2.1.size ≤ maxLen) F.ev0 (fun z ad h => h.1)
  (fun n ad cs y hc hy => by
   obtain ⟨hl, hat⟩ := cells_at hc
   obtain ⟨y0, y1, y2, n', hyx, hlen, t0, t1, t2⟩ := trod_struct3 Tryz.underlying36 hy
   simp only [Tryz.cellsInt, Tryz.cellsString] at t0 t1 t2
   match cs, hl with
   | [c0, c1, c2], _ =>
     obtain ⟨z0, h0, _⟩ := DataW.trod_int Tryz.underlying3 t0
     obtain ⟨z1, h1, _, hsz⟩ := DataW.trod_string Tryz.underlying9 t1
     obtain ⟨z2, h2, _⟩ := DataW.trod_int Tryz.underlying3 t2
     simp only [List.drop_zero, List.drop_succ_cons, List.take_succ_cons, List.take_zero, List.cons.injEq, and_true] at h0 h1 h2
     subst h0 h1 h2
     have e0 := hat 0 (by omega)
     have e1 := hat 1 (by omega)
     have e2 := hat 2 (by omega)
     have hs : ad.spot = none := spot_of_cell (W := W) (v := .int .i64 z0) (by simpa [Addr.add] using e0)
     obtain ⟨b, off, spot⟩ := ad
     simp only at hs
     subst hs
     rw [Addr.add_lit] at e0 e1 e2
     exact ⟨(z0, z1, z2), rfl, ⟨e0, e1, e2⟩, hsz⟩) h
 refine ⟨_, xs, rfl, ⟨a, cap, rfl, h1, h2, fun h0 => ?_⟩, fun z hz => ?_⟩
 · obtain ⟨g, off, rfl, hc⟩ := h3 h0
   exact ⟨g, off, rfl, lt_of_cell (hc 0 h0).2.1.1, fun j hj => by have := (hc j hj).2.1; simpa [hj] using this⟩
 · obtain ⟨i, hi, rfl⟩ := List.getElem_of_mem hz
   obtain ⟨g, off, rfl, hc⟩ := h3 (by omega)
   have := (hc i hi).2.2
   simpa [hi] using this
theorem open_strs {fuel : Nat} {cs : List Value} {x : DataW H × List MemPlace} (h : DataW.trod enc Tryz.prog W 0 (fun _ => true) true fuel 22 cs = some x) :
 ∃ v xs, cs = [v] ∧ StrsP (fun g => g < W.heap.size) W v xs ∧ ∀ e ∈ xs, e.size ≤ maxLen := by
 obtain ⟨a, cap, xs, rfl, h1, h2, h3⟩ := open_sl Tryz.underlying22 Tryz.cellsString (fun (z : ByteArray) ad => ad.spot = none ∧ rdStr W ad z ∧ z.size ≤ maxLen) ⟨#[]⟩ (fun z ad h => h.1)
  (fun n ad cs y hc hy => by
   obtain ⟨v, rfl, hv⟩ := cells_one hc
   obtain ⟨z1, h1, _, hsz⟩ := DataW.trod_string Tryz.underlying9 hy
   simp only [List.cons.injEq, and_true] at h1
   subst h1
   exact ⟨z1, spot_of_cell hv, hv, hsz⟩) h
 refine ⟨_, xs, rfl, ⟨a, cap, rfl, h1, h2, fun h0 => ?_⟩, fun z hz => ?_⟩
 · obtain ⟨g, off, rfl, hc⟩ := h3 h0
   exact ⟨g, off, rfl, lt_of_cell (hc 0 h0).2.1, fun j hj => by have := (hc j hj).2.1; simpa [hj] using this⟩
 · obtain ⟨i, hi, rfl⟩ := List.getElem_of_mem hz
   obtain ⟨g, off, rfl, hc⟩ := h3 (by omega)
   have := (hc i hi).2.2
   simpa [hi] using this
end
end Go.Proofs.YtjlknaahpjiibaaGreatDoor
namespace Go.Proofs.YtjlknaahpjiibaaGreatDoor.Jv
open Go.ChangeShapes Go.WideShapes Go.ChangeAt Go.RowKit Go.Deep
set_option maxRecDepth 100000 in
theorem first_eq : Rows.laid_unicode_utf8_first = Lib.firstData := by kernel_rfl
set_option maxRecDepth 100000 in
theorem accept_eq : (Rows.laid_unicode_utf8_acceptRanges : DataW Unit) = Lib.acceptData := by kernel_rfl
set_option maxRecDepth 100000 in
theorem pow_eq : (Rows.laid_internal_strconv_uint64pow10 : DataW Unit) = Lib.tabData .u64 Lib.pow10Tab := by kernel_rfl
theorem tabs_of_reads {W : World} (h3 : Lib.VarReads Tryz.prog W "unicode/utf8.first" Rows.laid_unicode_utf8_first) (h4 : Lib.VarReads Tryz.prog W "unicode/utf8.acceptRanges" Rows.laid_unicode_utf8_acceptRanges) : Tb W := by
 rw [first_eq] at h3
 rw [accept_eq] at h4
 exact utf8Tabs_of_readsT (U8Types.of196 Tryz.laysValid) ⟨by kernel_rfl, by kernel_rfl, by kernel_rfl, by kernel_rfl, by kernel_rfl, by kernel_rfl, by kernel_rfl⟩ h3 h4
theorem p10_of_reads {W : World} (h : Lib.VarReads Tryz.prog W "internal/strconv.uint64pow10" Rows.laid_internal_strconv_uint64pow10) : P10 W := by
 rw [pow_eq] at h
 obtain ⟨g, t, cs, fuel, p, hg, hty, hvar, hd⟩ := h
 obtain rfl := Option.some.inj (p10_named.symm.trans hg)
 obtain rfl := Option.some.inj ((show (Tryz.prog.globals[3]?).map (·.type) = some 257 by kernel_rfl).symm.trans hty)
 unfold P10 Lib.TabIs
 rw [hvar, ← Lib.cells_of_tab Tryz.underlying257 Tryz.underlying168 (by kernel_rfl) (by kernel_rfl) hd]
end Go.Proofs.YtjlknaahpjiibaaGreatDoor.Jv
