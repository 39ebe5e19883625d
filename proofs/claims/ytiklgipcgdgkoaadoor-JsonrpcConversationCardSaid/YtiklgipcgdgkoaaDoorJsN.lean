/- messageExample, NewServer, Equal at ints, Flush. -/
import Derived.Test.YtiklgipcgdgkoaaDoorJsM
import Derived.Test.YtiklgipcgdgkoaaDoorJvP
namespace Go.Proofs.YtiklgipcgdgkoaaDoor.Jv
open Go.RowKit Go.ChangeMaps Go.MapKept
set_option linter.unusedVariables false
set_option linter.unusedSimpArgs false
theorem mex_enc : (toJ 1 1 0 ⟨#[97]⟩).encode = (⟨#[123, 34, 105, 100, 34, 58, 49, 44, 34, 109, 101, 116, 104, 111, 100, 34, 58, 34, 97, 34, 44, 34, 112, 97, 114, 97, 109, 115, 34, 58, 110, 117, 108, 108, 125]⟩, 0) := by
  have hv := toJ_valid (k := 1) (i := 1) (c := 0) (t := ⟨#[97]⟩) ⟨by decide, Or.inl ⟨rfl, rfl, by decide, by decide, by decide⟩⟩
  have he : (toJ 1 1 0 ⟨#[97]⟩).enc = [123, 34, 105, 100, 34, 58, 49, 44, 34, 109, 101, 116, 104, 111, 100, 34, 58, 34, 97, 34, 44, 34, 112, 97, 114, 97, 109, 115, 34, 58, 110, 117, 108, 108, 125] := by
    have h1 : Lib.itoa 1 = [49] := by simp [Lib.itoa, Lib.decDigits]
    have h2 : encS ⟨#[97]⟩ = [34, 97, 34] := by decide
    have h3 : encS ⟨#[105, 100]⟩ = [34, 105, 100, 34] := by decide
    have h4 : encS ⟨#[109, 101, 116, 104, 111, 100]⟩ = [34, 109, 101, 116, 104, 111, 100, 34] := by decide
    have h5 : encS ⟨#[112, 97, 114, 97, 109, 115]⟩ = [34, 112, 97, 114, 97, 109, 115, 34] := by decide
    simp [toJ, J.enc, encL, J.zero, h1, h2, h3, h4, h5]
  unfold J.encode
  rw [hv, he]
  rfl
set_option maxRecDepth 100000 in
set_option maxHeartbeats 8000000 in
theorem mex_any (w : World) (hT : TP w) : Calls Tryd.prog 7 #[] w fun e w' => e = .returned (.bool true) ∧ Chg [] w w' := by
  have HE := Lib.hid (enc_msg 1 1 0 ⟨#[97]⟩ w ⟨by decide, Or.inl ⟨rfl, rfl, by decide, by decide, by decide⟩⟩ hT.1)
  have HT := Lib.hid hT
  have Hmx := Lib.hid mex_enc
  generalize toJ 1 1 0 ⟨#[97]⟩ = j at HE Hmx
  unfold mV at HE
  clear hT
  go_enter Tryd.func7, Tryd.ntmps7
  go_wp2_with fail
  refine HE.out.mono ?_
  rintro e w2 ⟨v, rfl, hv, hc2⟩
  obtain ⟨ev, rfl⟩ := hv.ev'
  obtain ⟨w3, hw3⟩ : ∃ x, x = w2.alloc (.cells #[.int .i64 ev.k, .int .i64 ev.n, .string ev.t, .slice ev.na ev.nl ev.nc, .slice ev.ia ev.il ev.ic] 25) := ⟨_, rfl⟩
  obtain ⟨vb, hvb⟩ : ∃ x, x = w2.heap.size := ⟨_, rfl⟩
  have hd3 : Chg [] w2 w3 := by rw [hw3]; exact (Chg.refl _ _).alloc _
  have hb3 : w3.heap[vb]? = some (.cells #[.int .i64 ev.k, .int .i64 ev.n, .string ev.t, .slice ev.na ev.nl ev.nc, .slice ev.ia ev.il ev.ic] 25 (0, 0)) := by rw [hw3, hvb]; exact heap_at _ _ _ rfl
  have hc3 := hc2.trans hd3
  have hj3 := hv.same hd3
  have Henc := Lib.hid (Encode_any _ 2 w3 j _ hj3 (fun g hg => hg.2) (HT.out.1.new hc3) (HT.out.new hc3).2 (fun _ => by
    have h := Hmx.out
    unfold J.encode at h
    split at h
    · cases h
    · split at h
      · cases h
      · omega))
  have Hc3 := Lib.hid hc3
  obtain ⟨b0, b1, b2, b3, b4⟩ := box_kept vb hb3 (Chg.refl [] w3)
  unfold Ev.val at *
  clear hd3 hc3 hj3 hv hc2 hb3
  go_upto_region 2 with fail
  rw [← hw3, ← hvb]
  clear hw3 hvb
  go_wp2_with fail
  refine Henc.out.mono ?_
  rintro e w4 ⟨rfl, hc4⟩
  rw [Hmx.out]
  have Hc4 := Lib.hid (Hc3.out.trans hc4)
  clear hc4
  go_wp2_with fail
  go_ret
  exact ⟨rfl, Hc4.out⟩
set_option maxHeartbeats 4000000 in
theorem new_any (w : World) : Calls Tryd.prog 15 #[] w fun e w' => e = .returned (.pointer (some ⟨w.heap.size, 0, none⟩)) ∧ w' = w.alloc (.cells #[.slice none 0 0, .slice none 0 0] 73) := by
  go_enter Tryd.func15, Tryd.ntmps15
  go_wp2_with fail
  go_ret
  exact ⟨rfl, rfl⟩
/-- six ints in a block -/
def Six (w : World) (g : Nat) (A : List Int) : Prop := w.heap[g]? = some (.cells (A.map (Value.int .i64)).toArray 3 (0, 0)) ∧ A.length = 6
theorem Six.cell {w : World} {g : Nat} {A : List Int} (h : Six w g A) {i : Nat} (hi : i < 6) : w.cell? ⟨g, i, none⟩ = some (.int .i64 (A.getD i 0)) := by
  refine cell_of_heap h.1 ?_
  have : i < A.length := by rw [h.2]; exact hi
  simp [this]
set_option maxHeartbeats 4000000 in
theorem equal6 (w : World) (g g' : Nat) (A : List Int) (h : Six w g A) (h' : Six w g' A) : Calls Tryd.prog 23 #[.slice (some ⟨g, 0, none⟩) 6 6, .slice (some ⟨g', 0, none⟩) 6 6] w fun e w' => e = .returned (.bool true) ∧ Chg [] w w' := by
  have H := Lib.hid (fun i (hi : i < 6) => And.intro (h.cell hi) (h'.cell hi))
  clear h h'
  go_enter Tryd.func23, Tryd.ntmps23
  go_wp2_with fail
  go_loopw [14] (fun i wr => ∃ n : Nat, n ≤ 6 ∧ i = .int .i64 (n : Nat) ∧ wr = w) (fun i _ => 6 - (intOf i).toNat)
  case atStart => exact ⟨0, by omega, rfl, rfl⟩
  case round =>
    obtain ⟨n, hn, rfl, rfl⟩ := hrel
    by_cases hlt : n < 6
    · obtain ⟨q1, q2⟩ := H.out n hlt
      generalize A.getD n 0 = x at q1 q2
      have hn1 : (n : Int) < 6 := by omega
      have hn0 : (0 : Int) ≤ (n : Int) := by omega
      have l1 := lt_of_cell q1
      have l2 := lt_of_cell q2
      go_wp2_with fail
      exact ⟨⟨n + 1, by omega, by go_num, by trivial⟩, by simp [intOf]; omega⟩
    · obtain rfl : n = 6 := by omega
      go_wp2_with fail
      go_ret
      exact ⟨rfl, Chg.refl _ _⟩
/-- what Flush has done -/
def FlI (base : Bs) (sb jl jn ql qn : Nat) (ja qa : Option Addr) (js : List Jb) (qs : List Qm) (w w' : World) : Prop := Srv w' base sb ja jl jn none 0 0 js [] ∧ w'.ownsRow base 27 9 (.slice qa ql qn) ql (qs.flatMap qc) ∧ ChgP (SF base sb w) w w' ∧ ∀ g, (Value.slice qa ql qn).ownBlock = some g → ¬ base.X g
theorem FlI.new {base : Bs} {sb jl jn ql qn : Nat} {ja qa : Option Addr} {js : List Jb} {qs : List Qm} {w w1 w2 : World} (h : FlI base sb jl jn ql qn ja qa js qs w w1) (hc : Chg [] w1 w2) : FlI base sb jl jn ql qn ja qa js qs w w2 :=
  ⟨h.1.new hc, ownsRow_kept h.2.1 fun g hg hl => hc.block g hl (by simp), sf_trans h.2.2.1 (sf_new hc), h.2.2.2⟩
theorem FlI.set {base : Bs} {sb jl jn ql qn g p : Nat} {ja : Option Addr} {js : List Jb} {qs : List Qm} {w w1 : World} {u : Value} (h : FlI base sb jl jn ql qn ja (some ⟨g, 0, none⟩) js qs w w1) (hp : p < ql * 9) (hu : (qs.flatMap qc)[p]? = some u) : FlI base sb jl jn ql qn ja (some ⟨g, 0, none⟩) js qs w (w1.setCell ⟨g, p, none⟩ u) := by
  obtain ⟨h1, h2, h3, h5⟩ := h
  obtain ⟨cs, fr, hb⟩ := own_type h2 rfl
  obtain ⟨hge, hgl⟩ := ownsRow_ge h2 (g := g) rfl
  have hsb := h1.sb
  have hc : Chg [g] w1 (w1.setCell ⟨g, p, none⟩ u) := (Chg.refl _ _).setCell (Or.inl (by simp)) _
  refine ⟨⟨(hc.block sb (lt_of_obj h1.box) (by simp; omega)).trans h1.box, ownsRow_kept h1.jobs fun q hq hl => hc.block q hl fun hm => ?_, World.ownsRow_nil _ _ _ _, h1.jl, h1.ql, hsb, Nat.le_trans h1.base hc.size, h1.xj, h1.xq, fun g hg => Nat.lt_of_lt_of_le (h1.xl g hg) hc.size⟩, ?_, ?_, h5⟩
  · obtain rfl := List.mem_singleton.1 hm
    obtain ⟨cs', fr', hb'⟩ := own_type h1.jobs hq
    rw [hb] at hb'
    simp only [Option.some.injEq, Obj.cells.injEq] at hb'
    exact absurd hb'.2.1 (by decide)
  · have h4 := row_set (u := u) (i := p) h2 hp
    obtain ⟨hx, rfl⟩ := List.getElem?_eq_some_iff.1 hu
    rwa [List.set_getElem_self] at h4
  · refine sf_trans h3 (ChgP.setCell (p := ⟨g, p, none⟩) (ChgP.refl _ _) (Or.inl (Or.inr ⟨hge, ⟨cs, _, fr, hb, Or.inr rfl⟩, h5 g rfl⟩)) _)
theorem qc_cell (qs : List Qm) {n : Nat} (hn : n < qs.length) {c : Nat} (hc : c < 9) : (qs.flatMap qc)[n * 9 + c]? = (qc qs[n])[c]? := fm_get qc_len qs n hn c hc
def FlPost (base : Bs) (sb : Nat) (js : List Jb) (qs : List Qm) (w : World) (e : Ending) (w' : World) : Prop := ∃ ja jn qa qn, e = .returned (.slice qa qs.length qn) ∧ FlI base sb js.length jn qs.length qn ja qa js qs w w'
set_option maxRecDepth 100000 in
set_option maxHeartbeats 8000000 in
theorem flush_any (w : World) (base : Bs) (sb jl jn ql qn : Nat) (ja qa : Option Addr) (js : List Jb) (qs : List Qm) (h : Srv w base sb ja jl jn qa ql qn js qs) (hq : qs.length ≤ 1000) :
    Calls Tryd.prog 17 #[.pointer (some ⟨sb, 0, none⟩)] w (FlPost base sb js qs w) := by
  obtain ⟨w1, hw1⟩ : ∃ x, x = w.setCell ⟨sb, 1, none⟩ (.slice none 0 0) := ⟨_, rfl⟩
  have c1 := h.c1
  have f1 := h.fz 1
  have lb := lt_of_cell c1
  have HI : Hid (FlI base sb jl jn ql qn ja qa js qs w w1) := Lib.hid (by
    have hc : Chg [sb] w w1 := by rw [hw1]; exact (Chg.refl [sb] w).setCell (Or.inl (by simp)) _
    have hsb := h.sb
    have hn : ∀ g, base.n ≤ g → g ∉ [sb] := fun g hg hm => by have := List.mem_singleton.1 hm; omega
    refine ⟨⟨?_, ownsRow_kept h.jobs fun g hg hl => hc.block g hl (hn g (ownsRow_ge h.jobs hg).1), World.ownsRow_nil _ _ _ _, h.jl, rfl, hsb, Nat.le_trans h.base hc.size, h.xj, xnone 0 0, fun g hg => Nat.lt_of_lt_of_le (h.xl g hg) hc.size⟩, ownsRow_kept h.queue fun g hg hl => hc.block g hl (hn g (ownsRow_ge h.queue hg).1), ?_, h.xq⟩
    · rw [hw1]; exact heap_setCell_same (i := 1) h.box _
    · exact hc.toP.mono fun g hg => Or.inl (List.mem_singleton.1 hg))
  have HL := Lib.hid (And.intro h.jl h.ql)
  have hql : ql ≤ 1000 := by rw [h.ql]; exact hq
  clear h
  go_enter Tryd.func17, Tryd.ntmps17
  go_upto_region 3 with fail
  rw [← hw1]
  clear hw1 c1 f1 lb
  go_wp2_with fail
  go_loopw [14] (fun i wr => ∃ n : Nat, n ≤ ql ∧ i = .int .i64 (n : Nat) ∧ Hid (FlI base sb jl jn ql qn ja qa js qs w wr)) (fun i _ => ql - (intOf i).toNat)
  case atStart => exact ⟨0, by omega, rfl, HI⟩
  case round =>
    obtain ⟨n, hn, rfl, HF⟩ := hrel
    by_cases hlt : n < ql
    · have hnq : n < qs.length := by have := HL.out.2; omega
      obtain ⟨g, hg, gb, lg, hcell⟩ := own_cells qc_len HF.out.2.1 HL.out.2 hnq (by decide)
      subst hg
      have Hrow := Lib.hid (fun c (hc : c < 9) => qc_cell qs hnq hc)
      have Hlast := Lib.hid (show n * 9 + 9 ≤ ql * 9 by omega)
      have hcap : ql ≤ qn := by
        rcases HF.out.2.1.2 with ⟨hv, hx⟩ | ⟨g', cap', cur, hv, hge, hh, hnc, _⟩
        · cases hv
        · cases hv; omega
      generalize qs[n] = m at hcell Hrow
      obtain ⟨mk, mi, mc, mt⟩ := m
      have m4 : wr.cell? ⟨g, n * 9 + 4, none⟩ = some (.int .i64 0) := hcell 4 (by decide)
      have m5 : wr.cell? ⟨g, n * 9 + 5, none⟩ = some (.int .i64 0) := hcell 5 (by decide)
      have m6 : wr.cell? ⟨g, n * 9 + 6, none⟩ = some (.string ⟨#[]⟩) := hcell 6 (by decide)
      have m7 : wr.cell? ⟨g, n * 9 + 7, none⟩ = some (.slice none 0 0) := hcell 7 (by decide)
      have m8 : wr.cell? ⟨g, n * 9 + 8, none⟩ = some (.slice none 0 0) := hcell 8 (by decide)
      have hn1 : (n : Int) < ql := by omega
      have hn0 : (0 : Int) ≤ (n : Int) := by omega
      have Hz := Lib.hid (clone_zero wr)
      clear hcell
      go_wp2_with fail
      refine Hz.out.mono ?_
      rintro e w2 ⟨rfl, hc2⟩
      have HF2 := Lib.hid (HF.out.new hc2)
      have m42 := (hc2.cell (lt_of_cell m4) (by simp)).trans m4
      have m52 := (hc2.cell (lt_of_cell m5) (by simp)).trans m5
      have m62 := (hc2.cell (lt_of_cell m6) (by simp)).trans m6
      have m72 := (hc2.cell (lt_of_cell m7) (by simp)).trans m7
      have m82 := (hc2.cell (lt_of_cell m8) (by simp)).trans m8
      have lg2 := lt_of_cell m42
      have fz : ∀ i, w2.frozen? ⟨g, i, none⟩ = false := fun i => by
        rcases HF2.out.2.1.2 with ⟨hv, hx⟩ | ⟨g', cap', cur, hv, hge, hh, _⟩
        · cases hv
        · cases hv
          exact frozen_of_heap (i := i) hh
      clear hc2 m4 m5 m6 m7 m8 lg
      go_wp2_with fail
      refine ⟨⟨n + 1, by omega, by go_num, Lib.hid ?_⟩, by simp [intOf]; omega⟩
      have hl := Hlast.out
      exact ((((HF2.out.set (p := n * 9 + 4) (by omega) (Hrow.out 4 (by decide))).set (p := n * 9 + 5) (by omega) (Hrow.out 5 (by decide))).set (p := n * 9 + 6) (by omega) (Hrow.out 6 (by decide))).set (p := n * 9 + 7) (by omega) (Hrow.out 7 (by decide))).set (p := n * 9 + 8) (by omega) (Hrow.out 8 (by decide))
    · obtain rfl : n = ql := by omega
      have hn1 : ¬ ((n : Int) < n) := by omega
      go_wp2_with fail
      go_ret
      refine ⟨ja, jn, qa, qn, by rw [← HL.out.2]; rfl, ?_⟩
      rw [← HL.out.1, ← HL.out.2]
      exact HF.out
end Go.Proofs.YtiklgipcgdgkoaaDoor.Jv
