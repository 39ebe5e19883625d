/- Reading the JSON laws' arguments; what the listed variables read as. -/
import Derived.Test.YtiklgipcgdgkoaaDoorJvP
import Derived.Test.YtiklgipcgdgkoaaDoorOpen
import Derived.Lib.LaidU8T
import Derived.MakeChecks
namespace Go.Proofs.YtiklgipcgdgkoaaDoor.Jv
open Go.ChangeShapes Go.WideShapes Go.ChangeAt Go.RowKit Go.Deep
set_option linter.unusedVariables false
set_option linter.unusedSimpArgs false
theorem laidOut : laidOutB Tryd.prog = true := by kernel_rfl
theorem ownNone : ownKnob Tryd.prog.godebug = none := by kernel_rfl
theorem cellsInt : Tryd.prog.cellsOf 3 = 1 := by kernel_rfl
theorem cellsString : Tryd.prog.cellsOf 9 = 1 := by kernel_rfl
theorem cellsJ : Tryd.prog.cellsOf 25 = 5 := by kernel_rfl
theorem cellsSs : Tryd.prog.cellsOf 22 = 1 := by kernel_rfl
theorem cellsJs : Tryd.prog.cellsOf 23 = 1 := by kernel_rfl
section
variable {P : Program} {H : Type} {enc : TypeId × Value → H} {W : World}
/-- a slice, each element with its datum, which is smaller -/
theorem open_slD {T E : TypeId} {sz : Nat} (ht : P.underlying T = some (.slice E)) (hsz : P.cellsOf E = sz) {α : Type} (F : α → Addr → Prop) (d : α) (hspot : ∀ z ad, F z ad → ad.spot = none)
    {fuel : Nat} {cs : List Value} {x : DataW H × List MemPlace} (h : DataW.trod enc P W 0 (fun _ => true) true fuel T cs = some x)
    (hel : ∀ n ad cs y, W.cells? 0 ad sz = some cs → DataW.trod enc P W 0 (fun _ => true) true n E cs = some y → SizeOf.sizeOf y.1 < SizeOf.sizeOf x.1 → ∃ z, F z ad) :
    ∃ (a : Option Addr) (cap : Nat) (xs : List α), cs = [.slice a xs.length cap] ∧ xs.length ≤ cap ∧ cap ≤ maxLen ∧ (0 < xs.length → ∃ g off, a = some ⟨g, off, none⟩ ∧ ∀ j, j < xs.length → F (xs.getD j d) ⟨g, off + j * sz, none⟩) := by
  rcases open_slice ht h with ⟨hcs, _⟩ | ⟨a, len, cap, m, n, D, Pl, hcs, hb, hl, hm, hmm, hx, hi⟩
  · exact ⟨none, 0, [], by simpa using hcs, by simp, by simp, fun h => absurd h (by simp)⟩
  · simp only [if_true] at hmm
    rw [hsz] at hi
    have hf : ∀ i, i < len → ∃ z : α, F z (a.add (i * sz)) := by
      intro i him
      obtain ⟨cs', hc, hy⟩ := hi i (by omega)
      refine hel _ _ _ _ hc hy ?_
      rw [hx]
      have hmem : D i ∈ (List.range len).map D := List.mem_map.2 ⟨i, List.mem_range.2 him, rfl⟩
      have := List.sizeOf_lt_of_mem hmem
      simp only [DataW.slice.sizeOf_spec]
      omega
    have hex : ∃ f : Nat → α, ∀ i, i < len → F (f i) (a.add (i * sz)) :=
      ⟨fun i => if hi : i < len then (hf i hi).choose else d, fun i hi => by simp only [dif_pos hi]; exact (hf i hi).choose_spec⟩
    obtain ⟨f, hff⟩ := hex
    refine ⟨some a, cap, (List.range len).map f, by simpa using hcs, by simpa using hl, hm, fun h0 => ?_⟩
    have h0' : 0 < len := by simpa using h0
    obtain ⟨b, off, spot⟩ := a
    have hs : spot = none := by
      have := hspot _ _ (hff 0 h0')
      simpa [Addr.add] using this
    subst hs
    refine ⟨b, off, rfl, fun j hj => ?_⟩
    have hj' : j < len := by simpa using hj
    have := hff j hj'
    rw [Addr.add_lit] at this
    simpa [hj'] using this
end
section
variable {H : Type} {enc : TypeId × Value → H} {W : World}
theorem open_names {fuel : Nat} {cs : List Value} {x : DataW H × List MemPlace} (h : DataW.trod enc Tryd.prog W 0 (fun _ => true) true fuel 22 cs = some x) :
    ∃ v xs, cs = [v] ∧ SlR (fun g => g < W.heap.size) 1 rdS W v xs := by
  obtain ⟨a, cap, xs, rfl, h1, h2, h3⟩ := open_sl Tryd.underlying22 cellsString (fun (z : ByteArray) ad => rdS W ad z) ⟨#[]⟩ (fun z ad h => spot_of_cell h.1)
    (fun n ad cs y hc hy => by
      obtain ⟨v, rfl, hv⟩ := cells_one hc
      obtain ⟨z, hz, _, hzl⟩ := DataW.trod_string Tryd.underlying9 hy
      simp only [List.cons.injEq, and_true] at hz
      exact ⟨z, by rw [hv, hz], hzl⟩) h
  refine ⟨_, xs, rfl, a, cap, rfl, h1, h2, fun h0 => ?_⟩
  obtain ⟨g, off, rfl, hc⟩ := h3 h0
  exact ⟨g, off, rfl, lt_of_cell (hc 0 h0).1, fun j hj => by have := hc j hj; simpa [hj] using this⟩
theorem len5 {α : Type} {l : List α} (h : l.length = 5) : ∃ a b c d e, l = [a, b, c, d, e] := by
  match l, h with
  | [a, b, c, d, e], _ => exact ⟨a, b, c, d, e, rfl⟩
set_option maxRecDepth 100000 in
/-- a value, read out of its datum -/
theorem open_cells (N : Nat) : ∀ (fuel : Nat) (cs : List Value) (x : DataW H × List MemPlace), SizeOf.sizeOf x.1 ≤ N → DataW.trod enc Tryd.prog W 0 (fun _ => true) true fuel 25 cs = some x →
    ∃ j, JV (fun g => g < W.heap.size) N W (.agg ⟨cs⟩) j := by
  induction N with
  | zero =>
    intro fuel cs x hN h
    obtain ⟨xs, n, _, rfl, _⟩ := DataW.trod_struct Tryd.underlying25 h
    simp at hN
  | succ N ih =>
    intro fuel cs x hN h
    obtain ⟨xs, n, _, rfl, hl, hlen, hf⟩ := DataW.trod_struct Tryd.underlying25 h
    rw [cellsJ] at hl
    match xs, hlen with
    | [y0, y1, y2, y3, y4], _ =>
      have t0 := hf 0 _ rfl
      have t1 := hf 1 _ rfl
      have t2 := hf 2 _ rfl
      have t3 := hf 3 _ rfl
      have t4 := hf 4 _ rfl
      simp only [List.getElem_toArray, List.getElem_cons_zero, List.getElem_cons_succ, cellsInt, cellsString, cellsSs, cellsJs, List.getElem?_cons_zero, List.getElem?_cons_succ] at t0 t1 t2 t3 t4
      · obtain ⟨c0, c1, c2, c3, c4, rfl⟩ := len5 hl
        obtain ⟨z0, h0, _⟩ := DataW.trod_int Tryd.underlying3 t0
        obtain ⟨z1, h1, _⟩ := DataW.trod_int Tryd.underlying3 t1
        obtain ⟨z2, h2, _, h2l⟩ := DataW.trod_string Tryd.underlying9 t2
        obtain ⟨v3, ns, h3, hns⟩ := open_names t3
        have hs4 : SizeOf.sizeOf y4.1 ≤ N := by
          simp only [List.map_cons, List.map_nil, DataW.agg.sizeOf_spec, List.cons.sizeOf_spec, List.nil.sizeOf_spec] at hN
          omega
        obtain ⟨a, cap, es, h4, e1, e2, e3⟩ := open_slD Tryd.underlying23 cellsJ (fun (z : J) ad => rdJ (fun g => g < W.heap.size) (N + 1) W ad z ∧ ad.spot = none) J.zero (fun z ad h => h.2) t4
          (fun n ad cs' y hc hy hlt => by
            obtain ⟨hl', hat⟩ := cells_at hc
            obtain ⟨j, hj⟩ := ih n cs' y (by omega) hy
            · obtain ⟨d0, d1, d2, d3, d4, rfl⟩ := len5 hl'
              obtain ⟨nv, iv, he, hn, hi, ht⟩ := hj
              simp only [Value.agg.injEq, Array.mk.injEq, List.cons.injEq, and_true] at he
              obtain ⟨rfl, rfl, rfl, rfl, rfl⟩ := he
              have q0 := hat 0 (by omega)
              have q1 := hat 1 (by omega)
              have q2 := hat 2 (by omega)
              have q3 := hat 3 (by omega)
              have q4 := hat 4 (by omega)
              have hs : ad.spot = none := spot_of_cell (W := W) (v := .int .i64 j.kind) (by simpa [Addr.add] using q0)
              obtain ⟨b, off, spot⟩ := ad
              simp only at hs
              subst hs
              rw [Addr.add_lit] at q0 q1 q2 q3 q4
              exact ⟨j, ⟨q0, q1, ⟨q2, ht⟩, _, _, q3, q4, hn, hi⟩, rfl⟩)
        simp only [List.drop_zero, List.drop_succ_cons, List.take_succ_cons, List.take_zero, List.cons.injEq, and_true] at h0 h1 h2 h3 h4
        subst h0 h1 h2 h3 h4
        refine ⟨.mk z0 z1 z2 ns es, _, _, rfl, hns, ⟨a, cap, rfl, e1, e2, fun h0 => ?_⟩, h2l⟩
        obtain ⟨g, off, rfl, hc⟩ := e3 h0
        refine ⟨g, off, rfl, lt_of_cell (hc 0 h0).1.1, fun j hj => ?_⟩
        have := (hc j hj).1
        rwa [List.getD_eq_getElem?_getD, List.getElem?_eq_getElem (show j < es.length from hj), Option.getD_some] at this
set_option maxRecDepth 100000 in
theorem open_json {base : Nat} {v : Value} {d : DataW H} {ps : List MemPlace} (hval : Value.okWide Tryd.prog W .any base 25 v) (hd : DataW.Trod enc Tryd.prog W 0 (fun _ => true) true 25 v d ps) :
    ∃ f j, JV (fun g => g < W.heap.size) f W v j := by
  obtain ⟨cs, rfl, hsz⟩ := okWide_struct Tryd.underlying25 hval
  obtain ⟨fuel, hf⟩ := hd
  have hce : (Value.agg cs).cells = cs := rfl
  rw [hce] at hf
  obtain ⟨l⟩ := cs
  obtain ⟨j, hj⟩ := open_cells _ fuel l _ (Nat.le_refl _) hf
  exact ⟨_, j, hj⟩
end
/-! ### the listed variables -/
set_option maxRecDepth 100000 in
theorem first_eq : Rows.laid_unicode_utf8_first = Lib.firstData := by kernel_rfl
set_option maxRecDepth 100000 in
theorem accept_eq : (Rows.laid_unicode_utf8_acceptRanges : DataW Unit) = Lib.acceptData := by kernel_rfl
set_option maxRecDepth 100000 in
theorem pow_eq : (Rows.laid_internal_strconv_uint64pow10 : DataW Unit) = Lib.tabData .u64 Lib.pow10Tab := by kernel_rfl
theorem tabs_of_reads {W : World} (h3 : Lib.VarReads Tryd.prog W "unicode/utf8.first" Rows.laid_unicode_utf8_first) (h4 : Lib.VarReads Tryd.prog W "unicode/utf8.acceptRanges" Rows.laid_unicode_utf8_acceptRanges) : Tb W := by
  rw [first_eq] at h3
  rw [accept_eq] at h4
  exact utf8Tabs_of_readsT (U8Types.of196 Tryd.laysValid) ⟨by kernel_rfl, by kernel_rfl, by kernel_rfl, by kernel_rfl, by kernel_rfl, by kernel_rfl, by kernel_rfl⟩ h3 h4
theorem p10_of_reads {W : World} (h : Lib.VarReads Tryd.prog W "internal/strconv.uint64pow10" Rows.laid_internal_strconv_uint64pow10) : P10 W := by
  rw [pow_eq] at h
  obtain ⟨g, t, cs, fuel, p, hg, hty, hvar, hd⟩ := h
  obtain rfl := Option.some.inj (p10_named.symm.trans hg)
  obtain rfl := Option.some.inj ((show (Tryd.prog.globals[2]?).map (·.type) = some 163 by kernel_rfl).symm.trans hty)
  unfold P10 Lib.TabIs
  rw [hvar, ← Lib.cells_of_tab Tryd.underlying163 Tryd.underlying133 (by kernel_rfl) (by kernel_rfl) hd]
end Go.Proofs.YtiklgipcgdgkoaaDoor.Jv
