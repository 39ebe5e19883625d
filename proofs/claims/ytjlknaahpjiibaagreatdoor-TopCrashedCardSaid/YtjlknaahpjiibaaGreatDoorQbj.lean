/- Part of the proof of topCrashedLaw_holds. -/
import Derived.StillTail
import Derived.StillTailTactics
import Derived.Test.YtjlknaahpjiibaaGreatDoorQbi
namespace Go.Proofs.YtjlknaahpjiibaaGreatDoor.Jv
open Go.RowKit Go.ChangeMaps Go.MapKept
set_option linter.unusedVariables false
set_option linter.unusedSimpArgs false
def pT : ByteArray := ⟨#[112, 97, 114, 97, 109, 115]⟩
def lastNm (n : Nat) : ByteArray := if n = 2 then ⟨#[114, 101, 115, 117, 108, 116]⟩ else if n = 3 then ⟨#[101, 114, 114, 111, 114]⟩ else pT
def encN (j : J) (n : Nat) : Int × J := encM ((n : Int) + 1) (candI j n) (candC j n) (candT j n) (candB j n)
def shortJ (E : J) : J := .mk 5 0 ⟨#[]⟩ (E.names.take (E.elems.length - 1)) (E.elems.take (E.elems.length - 1))
def isShort (j : J) (n : Nat) : Bool := decide (lastNm n = pT) && (isNJ (candB j n) && decide (n ≠ 4))
def shortN (j : J) (n : Nat) : J := if isShort j n = true then shortJ (encN j n).2 else (encN j n).2
def hit (j : J) (n : Nat) : Bool := decide ((encN j n).1 = 0) && (j.equal Jv.u8 (encN j n).2 || j.equal Jv.u8 (shortN j n))
theorem encM_ok {k i c : Int} {t : ByteArray} {b : J} (h : (encM k i c t b).1 = 0) : (1 ≤ k ∧ k ≤ 5) ∧ wfJ k i c t b = true ∧ b.valid u8 = 0 ∧ (toM k i c t b).valid u8 = 0 ∧ encM k i c t b = (0, toM k i c t b) := by
 unfold encM at h ⊢
 by_cases h1 : k < 1 ∨ 5 < k
 · rw [if_pos h1] at h; exact absurd h (by decide)
 rw [if_neg h1] at h ⊢
 by_cases h2 : wfJ k i c t b = false
 · rw [if_pos h2] at h; exact absurd h (by decide)
 rw [if_neg h2] at h ⊢
 by_cases h3 : b.valid u8 ≠ 0
 · rw [if_pos h3] at h; exact absurd h h3
 rw [if_neg h3] at h ⊢
 by_cases h4 : (toM k i c t b).valid u8 ≠ 0
 · rw [if_pos h4] at h; exact absurd h h4
 rw [if_neg h4]
 exact ⟨by omega, by simpa using h2, by simpa using h3, by simpa using h4, rfl⟩
theorem encN_shape {j : J} {n : Nat} (hn : n < 5) (h : (encN j n).1 = 0) : ∃ L, (2 ≤ L ∧ L ≤ 3) ∧ (encN j n).2.kind = 5 ∧ (encN j n).2.names.length = L ∧ (encN j n).2.elems.length = L ∧ (encN j n).2.names[L - 1]? = some (lastNm n) := by
 have := (encM_ok h).2.2.2.2
 unfold encN
 rw [this]
 have hn5 : n = 0 ∨ n = 1 ∨ n = 2 ∨ n = 3 ∨ n = 4 := by omega
 rcases hn5 with rfl | rfl | rfl | rfl | rfl
 · exact ⟨3, by decide, rfl, rfl, rfl, rfl⟩
 · exact ⟨2, by decide, rfl, rfl, rfl, rfl⟩
 · exact ⟨2, by decide, rfl, rfl, rfl, rfl⟩
 · exact ⟨2, by decide, rfl, rfl, rfl, rfl⟩
 · exact ⟨2, by decide, rfl, rfl, rfl, rfl⟩
theorem SlR.take {α : Type} {p : Nat → Prop} {sz : Nat} {rd : World → Addr → α → Prop} {w : World} {a : Option Addr} {n cap k : Nat} {xs : List α} (h : SlR p sz rd w (.slice a n cap) xs) (hk : k ≤ n) : SlR p sz rd w (.slice a k cap) (xs.take k) := by
 obtain ⟨a', cap', hv, h1, h2, h3⟩ := h
 simp only [Value.slice.injEq] at hv
 obtain ⟨rfl, rfl, rfl⟩ := hv
 have hl : (xs.take k).length = k := by rw [List.length_take]; omega
 refine ⟨a, cap, by rw [hl], by omega, h2, fun h0 => ?_⟩
 obtain ⟨g, off, rfl, hg, hc⟩ := h3 (by omega)
 exact ⟨g, off, rfl, hg, fun i hi => by rw [List.getElem_take]; exact hc i (by omega)⟩
theorem lk_JV {p : Nat → Prop} {f : Nat} {w : World} {v : Value} {j : J} (h : JV p f w v j) (s : ByteArray) : ∃ f' v', JV p f' w v' (lk j s) := by
 cases hf : j.findG s with
 | none => exact ⟨0, _, by unfold lk; rw [hf]; exact JV.zero p 0 w⟩
 | some e =>
   obtain ⟨i, hi, he⟩ := List.getElem_of_mem (findG_mem hf)
   obtain ⟨na, nc, ia, ic, hv, _, hes, _⟩ := h.shape
   obtain ⟨g, off, na2, nc2, ia2, ic2, _, _, _, _, _, _, _, f', _, hj⟩ := elem_at hes hi
   rw [he] at hj
   exact ⟨f', _, by unfold lk; rw [hf]; exact hj⟩
theorem JV.tsize {p : Nat → Prop} {f : Nat} {w : World} {v : Value} {j : J} (h : JV p f w v j) : j.text.size ≤ maxLen := h.shape.choose_spec.choose_spec.choose_spec.choose_spec.2.2.2.2.2
theorem candT_size {p : Nat → Prop} {f : Nat} {w : World} {v : Value} {j : J} (h : JV p f w v j) (n : Nat) : (candT j n).size ≤ maxLen := by
 unfold candT
 split
 · obtain ⟨_, _, hm⟩ := lk_JV h ⟨#[109, 101, 116, 104, 111, 100]⟩
   exact hm.tsize
 · split
   · obtain ⟨_, _, he⟩ := lk_JV h ⟨#[101, 114, 114, 111, 114]⟩
     obtain ⟨_, _, hm⟩ := lk_JV he ⟨#[109, 101, 115, 115, 97, 103, 101]⟩
     exact hm.tsize
   · decide
def stM (w : World) (g : Nat) (k i c : Int) (t : ByteArray) (e : Ev) : World :=
 ((((((((w.setCell ⟨g, 0, none⟩ (.int .i64 k)).setCell ⟨g, 1, none⟩ (.int .i64 i)).setCell ⟨g, 2, none⟩ (.int .i64 c)).setCell ⟨g, 3, none⟩ (.string t)).setCell ⟨g, 4, none⟩ (.int .i64 e.k)).setCell ⟨g, 5, none⟩ (.int .i64 e.n)).setCell ⟨g, 6, none⟩ (.string e.t)).setCell ⟨g, 7, none⟩ (.slice e.na e.nl e.nc)).setCell ⟨g, 8, none⟩ (.slice e.ia e.il e.ic)
theorem stM_chg (w : World) (g : Nat) (k i c : Int) (t : ByteArray) (e : Ev) : Chg [g] w (stM w g k i c t e) :=
 (((((((((Chg.refl [g] w).setCell (Or.inl (by simp)) _).setCell (Or.inl (by simp)) _).setCell (Or.inl (by simp)) _).setCell (Or.inl (by simp)) _).setCell (Or.inl (by simp)) _).setCell (Or.inl (by simp)) _).setCell (Or.inl (by simp)) _).setCell (Or.inl (by simp)) _).setCell (Or.inl (by simp)) _
theorem nineM {w : World} {g : Nat} {v0 v1 v2 v3 v4 v5 v6 v7 v8 : Value} {T : TypeId} (h : w.heap[g]? = some (.cells #[v0, v1, v2, v3, v4, v5, v6, v7, v8] T (0, 0))) :
 (w.cell? ⟨g, 0, none⟩ = some v0 ∧ w.cell? ⟨g, 1, none⟩ = some v1 ∧ w.cell? ⟨g, 2, none⟩ = some v2 ∧ w.cell? ⟨g, 3, none⟩ = some v3 ∧ w.cell? ⟨g, 4, none⟩ = some v4 ∧ w.cell? ⟨g, 5, none⟩ = some v5 ∧ w.cell? ⟨g, 6, none⟩ = some v6 ∧ w.cell? ⟨g, 7, none⟩ = some v7 ∧ w.cell? ⟨g, 8, none⟩ = some v8) ∧ (∀ i, w.frozen? ⟨g, i, none⟩ = false) ∧ g < w.heap.size :=
 ⟨⟨cell_of_heap h rfl, cell_of_heap h rfl, cell_of_heap h rfl, cell_of_heap h rfl, cell_of_heap h rfl, cell_of_heap h rfl, cell_of_heap h rfl, cell_of_heap h rfl, cell_of_heap h rfl⟩, fun i => frozen_of_heap (i := i) h, lt_of_obj h⟩
def DePost (f : Nat) (j : J) (w : World) (e : Ending) (w' : World) : Prop :=
 ((∃ n, n < 5 ∧ hit j n = true ∧ (∀ m, m < n → hit j m = false) ∧ ∃ ev : Ev, e = .returned (.tuple #[mB ((n : Int) + 1) (candI j n) (candC j n) (candT j n) ev, .int .i64 0]) ∧ JN w.heap.size f w' ev.val (candB j n)) ∨
  ((∀ m, m < 5 → hit j m = false) ∧ e = .returned (.tuple #[mB 0 0 0 ⟨#[]⟩ ev0, .int .i64 3]))) ∧ Chg [] w w'
set_option maxRecDepth 100000 in
set_option maxHeartbeats 8000000 in
theorem decode_any (p : Nat → Prop) (f : Nat) (w : World) (j : J) (v : Value) (hh : hit j 0 = true ∨ hit j 1 = true) (hj : JV p f w v j) (hp : ∀ g, p g → g < w.heap.size) (hs : Bd j) (hT : Tb w) : Calls Tryz.prog 46 #[v] w (DePost f j w) := by
 have Hh := Lib.hid hh
 clear hh
 obtain ⟨ej, rfl⟩ := hj.ev'
 have Hj := Lib.hid (fun W (hc : Chg [] w W) => hj.chg hc)
 have Hp := Lib.hid hp
 have HT := Lib.hid hT
 have Hts := Lib.hid (fun n => candT_size hj n)
 unfold Ev.val at *
 obtain ⟨w1, hw1⟩ : ∃ x, x = (w.alloc (.cells #[.int .i64 ej.k, .int .i64 ej.n, .string ej.t, .slice ej.na ej.nl ej.nc, .slice ej.ia ej.il ej.ic] 59)).alloc (.cells #[.int .i64 0, .int .i64 0, .int .i64 0, .string ⟨#[]⟩, .int .i64 0, .int .i64 0, .string ⟨#[]⟩, .slice none 0 0, .slice none 0 0] 61) := ⟨_, rfl⟩
 obtain ⟨vb, hvb⟩ : ∃ x, x = w.heap.size := ⟨_, rfl⟩
 have hc1 : Chg [] w w1 := by rw [hw1]; exact ((Chg.refl _ _).alloc _).alloc _
 have hm1 : w1.heap[vb]? = some (.cells #[.int .i64 ej.k, .int .i64 ej.n, .string ej.t, .slice ej.na ej.nl ej.nc, .slice ej.ia ej.il ej.ic] 59 (0, 0)) := by
  rw [hw1, hvb, heap_past _ _ _ (by simp)]
  exact heap_at _ _ _ rfl
 have hr1 : w1.heap[vb + 1]? = some (.cells #[.int .i64 0, .int .i64 0, .int .i64 0, .string ⟨#[]⟩, .int .i64 0, .int .i64 0, .string ⟨#[]⟩, .slice none 0 0, .slice none 0 0] 61 (0, 0)) := by
  rw [hw1, hvb]
  exact heap_at _ _ _ (by simp)
 have Hvb := Lib.hid hvb
 have Hc1 := Lib.hid hc1
 have Hm1 := Lib.hid hm1
 have Hr1 := Lib.hid hr1
 have Hcd := Lib.hid (cand_any p f w1 j _ (hj.chg hc1) hs)
 obtain ⟨b0, b1, b2, b3, b4⟩ := box_kept vb hm1 (Chg.refl [] w1)
 clear hj hp hs hT hc1 hm1 hr1
 go_enter Tryz.func46, Tryz.ntmps46
 go_upto_region 1 with fail
 rw [← hw1, ← hvb]
 clear hw1 hvb
 go_wp2_with fail
 refine Hcd.out.mono ?_
 rintro e w2 ⟨g, es, rfl, hgl, hgb, hms, hc2⟩
 have Hgl := Lib.hid (And.intro hgl hgb)
 have Hms := Lib.hid hms
 have Hc2 := Lib.hid hc2
 clear hgl hgb hms hc2 b0 b1 b2 b3 b4
 go_wp2_with fail
 go_loopw [13] (fun i wr => ∃ n : Nat, n ≤ 5 ∧ i = .int .i64 (n : Nat) ∧ Hid ((∀ m, m < n → hit j m = false) ∧ Chg [] w2 wr)) (fun i _ => 5 - (intOf i).toNat)
 case atStart => exact ⟨0, by omega, rfl, Lib.hid ⟨fun m hm => absurd hm (by omega), Chg.refl _ _⟩⟩
 case round =>
  obtain ⟨n, hn, rfl, Hs⟩ := hrel
  by_cases hlt : n < 5
  · have HN1 : Hid (n ≤ 1) := Lib.hid (by
     rcases Nat.lt_or_ge 1 n with h | h
     · have h0 := Hs.out.1 0 (by omega)
       have h1 := Hs.out.1 1 (by omega)
       rcases Hh.out with e | e
       · rw [h0] at e; cases e
       · rw [h1] at e; cases e
     · exact h)
    obtain ⟨hcell, hjn⟩ := Hms.out n hlt
    have m_ := fun c hc => (Hs.out.2.cell (p := ⟨g, n * 9 + c, none⟩) Hgl.out.1 (by simp)).trans (hcell c hc)
    have Hjn := Lib.hid hjn
    have HEn : Hid (encN j n = encN j n) := Lib.hid rfl
    obtain ⟨kk, hkk⟩ : ∃ kk : Int, kk = (n : Int) + 1 := ⟨_, rfl⟩
    obtain ⟨ci, hci⟩ : ∃ x, x = candI j n := ⟨_, rfl⟩
    obtain ⟨cc, hcc⟩ : ∃ x, x = candC j n := ⟨_, rfl⟩
    obtain ⟨ct, hct⟩ : ∃ x, x = candT j n := ⟨_, rfl⟩
    obtain ⟨ev, hev⟩ : ∃ x, x = es n := ⟨_, rfl⟩
    rw [show (((n + 1 : Nat) : Int)) = kk by rw [hkk]; omega, ← hci, ← hcc, ← hct, ← hev] at m_
    have m0 : wr.cell? ⟨g, n * 9, none⟩ = some (.int .i64 kk) := m_ 0 (by decide)
    have m1 : wr.cell? ⟨g, n * 9 + 1, none⟩ = some (.int .i64 ci) := m_ 1 (by decide)
    have m2 : wr.cell? ⟨g, n * 9 + 2, none⟩ = some (.int .i64 cc) := m_ 2 (by decide)
    have m3 : wr.cell? ⟨g, n * 9 + 3, none⟩ = some (.string ct) := m_ 3 (by decide)
    have m4 : wr.cell? ⟨g, n * 9 + 4, none⟩ = some (.int .i64 ev.k) := m_ 4 (by decide)
    have m5 : wr.cell? ⟨g, n * 9 + 5, none⟩ = some (.int .i64 ev.n) := m_ 5 (by decide)
    have m6 : wr.cell? ⟨g, n * 9 + 6, none⟩ = some (.string ev.t) := m_ 6 (by decide)
    have m7 : wr.cell? ⟨g, n * 9 + 7, none⟩ = some (.slice ev.na ev.nl ev.nc) := m_ 7 (by decide)
    have m8 : wr.cell? ⟨g, n * 9 + 8, none⟩ = some (.slice ev.ia ev.il ev.ic) := m_ 8 (by decide)
    have lg := lt_of_cell m0
    have Heq := Lib.hid (And.intro hkk (And.intro hci (And.intro hcc (And.intro hct hev))))
    have hn1 : (n : Int) < 5 := by omega
    have hn0 : (0 : Int) ≤ (n : Int) := by omega
    obtain ⟨w4, hw4⟩ : ∃ y, y = wr.alloc (.cells #[.int .i64 kk, .int .i64 ci, .int .i64 cc, .string ct, .int .i64 ev.k, .int .i64 ev.n, .string ev.t, .slice ev.na ev.nl ev.nc, .slice ev.ia ev.il ev.ic] 61) := ⟨_, rfl⟩
    obtain ⟨bm, hbm⟩ : ∃ y, y = wr.heap.size := ⟨_, rfl⟩
    have hc4 : Chg [] wr w4 := by rw [hw4]; exact (Chg.refl _ _).alloc _
    have hb4 : w4.heap[bm]? = some (.cells #[.int .i64 kk, .int .i64 ci, .int .i64 cc, .string ct, .int .i64 ev.k, .int .i64 ev.n, .string ev.t, .slice ev.na ev.nl ev.nc, .slice ev.ia ev.il ev.ic] 61 (0, 0)) := by rw [hw4, hbm]; exact heap_at _ _ _ rfl
    have Hc4 := Lib.hid (Hs.out.2.trans hc4)
    have Hb4 := Lib.hid hb4
    have Hj4 := Lib.hid (show JN w1.heap.size f w4 ev.val (candB j n) by rw [hev]; exact Hjn.out.same Hc4.out)
    have HE := Lib.hid (encode_b _ f kk ci cc ct ev (candB j n) w4 (by have := HN1.out; omega) (by rw [hct]; exact Hts.out n) Hj4.out (fun g hg => hg.2) (HT.out.new ((Hc1.out.trans Hc2.out).trans Hc4.out)))
    have HEe : Hid (encM kk ci cc ct (candB j n) = encN j n) := Lib.hid (by rw [hkk, hci, hcc, hct]; rfl)
    rw [HEe.out] at HE
    unfold mB at HE
    obtain ⟨⟨x0, x1, x2, x3, x4, x5, x6, x7, x8⟩, xf, xl⟩ := nineM hb4
    clear hkk hci hcc hct hev hcell hjn m_ hc4 hb4 HEn
    go_upto_region 4 with fail
    rw [← hw4, ← hbm]
    clear hw4 hbm m0 m1 m2 m3 m4 m5 m6 m7 m8 lg
    go_wp2_with fail
    refine HE.out.mono ?_
    rintro e w5 ⟨f5, ee, rfl, hee, hc5⟩
    obtain ⟨z, hz⟩ : ∃ z, z = (encN j n).1 := ⟨_, rfl⟩
    rw [← hz]
    have Hz := Lib.hid hz
    unfold Ev.val
    obtain ⟨w6, hw6⟩ : ∃ y, y = w5.alloc (.cells #[.int .i64 ee.k, .int .i64 ee.n, .string ee.t, .slice ee.na ee.nl ee.nc, .slice ee.ia ee.il ee.ic] 59) := ⟨_, rfl⟩
    obtain ⟨be, hbe⟩ : ∃ y, y = w5.heap.size := ⟨_, rfl⟩
    have hc6 : Chg [] w5 w6 := by rw [hw6]; exact (Chg.refl _ _).alloc _
    have hb6 : w6.heap[be]? = some (.cells #[.int .i64 ee.k, .int .i64 ee.n, .string ee.t, .slice ee.na ee.nl ee.nc, .slice ee.ia ee.il ee.ic] 59 (0, 0)) := by rw [hw6, hbe]; exact heap_at _ _ _ rfl
    have Hc6 := Lib.hid (hc5.trans hc6)
    have Hb6 := Lib.hid hb6
    have He6 := Lib.hid (JN.same hee hc6)
    clear hz hee hc5 hc6 hb6 x0 x1 x2 x3 x4 x5 x6 x7 x8 xf xl
    go_upto_region 5 with fail
    rw [← hw6, ← hbe]
    clear hw6 hbe
    by_cases hz0 : z = 0
    case neg =>
     have hz2 : (z != 0) = true := by simpa using hz0
     have Hno := Lib.hid (show hit j n = false by unfold hit; rw [← Hz.out, decide_eq_false hz0]; rfl)
     clear hz0
     go_wp2_with fail
     exact ⟨⟨n + 1, by omega, by go_num, Lib.hid ⟨fun m hm => by
      by_cases hmn : m < n
      · exact Hs.out.1 m hmn
      · rw [show m = n by omega]; exact Hno.out, Hc4.out.trans Hc6.out⟩⟩, by simp [intOf]; omega⟩
    case pos =>
     subst hz0
     obtain ⟨L, hL, hE5, hEn, hEe, hEl⟩ := encN_shape hlt Hz.out.symm
     have HL := Lib.hid (And.intro hEn (And.intro hEe (And.intro hEl hE5)))
     have hlens := He6.out.lens
     have hnl : ee.nl = L := by rw [hlens.2.2.2.1]; exact hEn
     have hil : ee.il = L := by rw [hlens.2.2.2.2.1]; exact hEe
     have hcap : L ≤ ee.nc ∧ L ≤ ee.ic := by
      obtain ⟨na, nc, ia, ic, hv, _, _, h1, h2, _⟩ := He6.out.shape
      unfold Ev.val at hv
      simp only [Value.agg.injEq, Array.mk.injEq, List.cons.injEq, Value.slice.injEq, and_true, true_and] at hv
      obtain ⟨_, _, _, ⟨_, _, e1⟩, _, _, e2⟩ := hv
      omega
     obtain ⟨ek, en, et, ena, enl, enc, eia, eil, eic⟩ := ee
     simp only at hnl hil hcap
     obtain rfl : enl = L := hnl
     obtain rfl : eil = enl := hil
     obtain ⟨gn, on, hga, hgp, hrd⟩ : ∃ gn on, ena = some ⟨gn, on, none⟩ ∧ gn < w6.heap.size ∧ w6.cell? ⟨gn, on + (eil - 1), none⟩ = some (.string (lastNm n)) := by
      obtain ⟨na, nc, ia, ic, hv, hns, _, _⟩ := He6.out.shape
      unfold Ev.val at hv
      simp only [Value.agg.injEq, Array.mk.injEq, List.cons.injEq, Value.slice.injEq, and_true, true_and] at hv
      obtain ⟨_, _, _, ⟨e1, _, _⟩, _, _, _⟩ := hv
      rw [← e1] at hns
      obtain ⟨gn, on, hga, hp2, hrd⟩ := SlR.at hns (eil - 1) (by have := HL.out.1; omega) ⟨#[]⟩
      rw [List.getD_eq_getElem?_getD, HL.out.2.2.1, Nat.mul_one] at hrd
      exact ⟨gn, on, hga, hp2.2, hrd.1⟩
     subst hga
     have Hhit := Lib.hid (show hit j n = (j.equal Jv.u8 (encN j n).2 || j.equal Jv.u8 (shortN j n)) by unfold hit; rw [← Hz.out]; rfl)
     have HLL := Lib.hid (And.intro hL hcap)
     clear hE5 hEn hEe hEl hlens
     obtain ⟨w7, hw7⟩ : ∃ y, y = w6.alloc (.cells #[.int .i64 ek, .int .i64 en, .string et, .slice (some ⟨gn, on, none⟩) eil enc, .slice eia eil eic] 59) := ⟨_, rfl⟩
     obtain ⟨bs, hbs⟩ : ∃ y, y = w6.heap.size := ⟨_, rfl⟩
     have hc7 : Chg [] w6 w7 := by rw [hw7]; exact (Chg.refl _ _).alloc _
     have hb7 : w7.heap[bs]? = some (.cells #[.int .i64 ek, .int .i64 en, .string et, .slice (some ⟨gn, on, none⟩) eil enc, .slice eia eil eic] 59 (0, 0)) := by rw [hw7, hbs]; exact heap_at _ _ _ rfl
     have Hc7 := Lib.hid hc7
     have Hb7 := Lib.hid hb7
     have Hbs := Lib.hid hbs
     obtain ⟨y0, y1, y2, y3, y4⟩ := box_kept be Hb6.out (Chg.refl [] w6)
     have q9 := (hc7.cell (p := ⟨gn, on + (eil - 1), none⟩) hgp (by simp)).trans hrd
     have ly := lt_of_cell q9
     have hi1 : (1 : Int) ≤ (eil : Int) := by omega
     obtain ⟨la, hla⟩ : ∃ la : Nat, la = eil - 1 := ⟨_, rfl⟩
     have hwr : IntKind.i64.wrap ((eil : Int) - 1) = (la : Int) := by rw [IntWalk.i64_in _ (by omega)]; omega
     have hla1 : (la : Int) < eil := by omega
     have hla0 : (0 : Int) ≤ (la : Int) := by omega
     rw [← hla] at q9
     have Hla := Lib.hid hla
     clear hgp hrd hc7 hb7 hla hL hcap hi1
     go_upto_region 7 with fail
     rw [← hw7, ← hbs]
     clear hw7 hbs y0 y1 y2 y3 y4
     have hce := (Hc7.out.block be (lt_of_obj Hb6.out) (by simp)).trans Hb6.out
     obtain ⟨y0, y1, y2, y3, y4⟩ := box_kept be hce (Chg.refl [] w7)
     have hcm := ((Hc6.out.trans Hc7.out).block bm (lt_of_obj Hb4.out) (by simp)).trans Hb4.out
     obtain ⟨⟨x0, x1, x2, x3, x4, x5, x6, x7, x8⟩, xf, xl⟩ := nineM hcm
     have Hce := Lib.hid hce
     have Hcm := Lib.hid hcm
     clear hce hcm
     have hbq : ((lastNm n).toList == [112, 97, 114, 97, 109, 115]) = decide (lastNm n = pT) := by
      have := beqS (lastNm n) pT
      rwa [show pT.toList = ([112, 97, 114, 97, 109, 115] : List UInt8) by rw [ByteArray.toList_eq]; rfl] at this
     have Hsh : Hid (isShort j n = (decide (lastNm n = pT) && (isNJ (candB j n) && decide (n ≠ 4)))) := Lib.hid rfl
     have HN := Lib.hid (isNull_any ev ⟨Hj4.out.lens.2.2.2.2.2.1, Hj4.out.lens.2.2.2.2.2.2⟩ w7)
     rw [isN_J Hj4.out] at HN
     unfold Ev.val at HN
     have hd1 : decide (lastNm n = pT) = true := by
      have := HN1.out
      have h : n = 0 ∨ n = 1 := by omega
      rcases h with h | h <;> subst h <;> rfl
     have hd3 : decide (n ≠ 4) = true := decide_eq_true (by have := HN1.out; omega)
     generalize lastNm n = ln at q9 hbq Hsh hd1
     generalize decide (ln = pT) = c1 at hbq Hsh hd1
     generalize isNJ (candB j n) = c2 at HN Hsh
     have hk5 : (kk != 5) = decide (n ≠ 4) := by
      rw [Heq.out.1]
      by_cases h4 : n = 4
      · subst h4; rfl
      · rw [decide_eq_true h4]; simp; omega
     generalize decide (n ≠ 4) = c3 at hk5 Hsh hd3
     cases c1
     · cases hd1
     cases c2
     · skip
       go_wp2_with fail
       refine HN.out.mono ?_
       rintro e w8 ⟨rfl, hc8⟩
       have Hc8 := Lib.hid hc8
       have y0 := (hc8.cell (lt_of_cell y0) (by simp)).trans y0
       have y1 := (hc8.cell (lt_of_cell y1) (by simp)).trans y1
       have y2 := (hc8.cell (lt_of_cell y2) (by simp)).trans y2
       have y3 := (hc8.cell (lt_of_cell y3) (by simp)).trans y3
       have y4 := (hc8.cell (lt_of_cell y4) (by simp)).trans y4
       have x0 := (hc8.cell (lt_of_cell x0) (by simp)).trans x0
       clear hc8
       go_upto_region 10 with fail
       clear hla1 hla0 hwr hbq hk5 q9 ly
       have HW : Hid (Chg [] w6 w8) := Lib.hid (Hc7.out.trans Hc8.out)
       have hWj := ((((Hc2.out.trans Hc4.out).trans Hc6.out).trans HW.out).block vb (lt_of_obj Hm1.out) (by simp)).trans Hm1.out
       have hWe := (HW.out.block be (lt_of_obj Hb6.out) (by simp)).trans Hb6.out
       have hWm := ((Hc6.out.trans HW.out).block bm (lt_of_obj Hb4.out) (by simp)).trans Hb4.out
       have hWs := ((Hc8.out.block bs (lt_of_obj Hb7.out) (by simp)).trans Hb7.out)
       have hWr := ((((Hc2.out.trans Hc4.out).trans Hc6.out).trans HW.out).block (vb + 1) (lt_of_obj Hr1.out) (by simp)).trans Hr1.out
       have HjW := Lib.hid (Hj.out w8 ((((Hc1.out.trans Hc2.out).trans Hc4.out).trans Hc6.out).trans HW.out))
       have HeW : Hid (JN w4.heap.size f5 w8 (Ev.val ⟨ek, en, et, some ⟨gn, on, none⟩, eil, enc, eia, eil, eic⟩) (encN j n).2) := Lib.hid (JN.same He6.out HW.out)
       have HsW : Hid (JN w4.heap.size f5 w8 (Ev.val ⟨ek, en, et, (some ⟨gn, on, none⟩), eil, enc, eia, eil, eic⟩) (shortN j n)) := Lib.hid (by have hsh : shortN j n = (encN j n).2 := if_neg (by rw [Hsh.out]; simp); rw [hsh]; exact HeW.out)
       have HTW := Lib.hid (HT.out.new ((((Hc1.out.trans Hc2.out).trans Hc4.out).trans Hc6.out).trans HW.out))
       have HpW := Lib.hid (fun g (hg : p g) => Nat.lt_of_lt_of_le (Hp.out g hg) ((((Hc1.out.trans Hc2.out).trans Hc4.out).trans Hc6.out).trans HW.out).size)
       have HB := Lib.hid (And.intro hWj (And.intro hWe (And.intro hWm (And.intro hWs hWr))))
       obtain ⟨b0, b1, b2, b3, b4⟩ := box_kept vb hWj (Chg.refl [] w8)
       obtain ⟨d0, d1, d2, d3, d4⟩ := box_kept be hWe (Chg.refl [] w8)
       have Heq1 := Lib.hid (Equal_any p _ f f5 w8 j (encN j n).2 _ _ HjW.out HeW.out HpW.out (fun g hg => hg.2) HTW.out)
       unfold Ev.val at Heq1
       clear hWj hWe hWm hWs hWr
       obtain ⟨q1, hq1⟩ : ∃ q, q = j.equal Jv.u8 (encN j n).2 := ⟨_, rfl⟩
       rw [← hq1] at Heq1 Hhit
       clear hq1
       go_wp2_with fail
       refine Heq1.out.mono ?_
       rintro e wa ⟨rfl, hca⟩
       have Hca := Lib.hid hca
       clear hca b0 b1 b2 b3 b4 d0 d1 d2 d3 d4
       cases q1
       · skip
         have hsa := (Hca.out.block bs (lt_of_obj HB.out.2.2.2.1) (by simp)).trans HB.out.2.2.2.1
         have hja := (Hca.out.block vb (lt_of_obj HB.out.1) (by simp)).trans HB.out.1
         obtain ⟨b0, b1, b2, b3, b4⟩ := box_kept vb hja (Chg.refl [] wa)
         obtain ⟨d0, d1, d2, d3, d4⟩ := box_kept bs hsa (Chg.refl [] wa)
         have Heq2 := Lib.hid (Equal_any p _ f f5 wa j (shortN j n) _ _ (HjW.out.chg Hca.out) (JN.same HsW.out Hca.out) (fun g hg => Nat.lt_of_lt_of_le (HpW.out g hg) Hca.out.size) (fun g hg => hg.2) (HTW.out.new Hca.out))
         unfold Ev.val at Heq2
         obtain ⟨q2, hq2⟩ : ∃ q, q = j.equal Jv.u8 (shortN j n) := ⟨_, rfl⟩
         rw [← hq2] at Heq2 Hhit
         clear hq2 hsa hja
         go_wp2_with fail
         refine Heq2.out.mono ?_
         rintro e wb ⟨rfl, hcb⟩
         have Hcb := Lib.hid hcb
         clear hcb b0 b1 b2 b3 b4 d0 d1 d2 d3 d4
         cases q2
         · skip
           go_wp2_with fail
           exact ⟨⟨n + 1, by omega, by go_num, Lib.hid ⟨fun m hm => by
            by_cases hmn : m < n
            · exact Hs.out.1 m hmn
            · rw [show m = n by omega]; exact Hhit.out, (((Hc4.out.trans Hc6.out).trans HW.out).trans Hca.out).trans Hcb.out⟩⟩, by simp [intOf]; omega⟩
         · skip
           obtain ⟨⟨x0, x1, x2, x3, x4, x5, x6, x7, x8⟩, xf, xl⟩ := nineM (((Hca.out.trans Hcb.out).block bm (lt_of_obj HB.out.2.2.1) (by simp)).trans HB.out.2.2.1)
           obtain ⟨⟨r0, r1, r2, r3, r4, r5, r6, r7, r8⟩, rf, rl⟩ := nineM (((Hca.out.trans Hcb.out).block (vb + 1) (lt_of_obj HB.out.2.2.2.2) (by simp)).trans HB.out.2.2.2.2)
           go_wp2_with fail
           refine bodyPost_ret (v := .tuple #[.agg #[.int .i64 kk, .int .i64 ci, .int .i64 cc, .string ct, .int .i64 ev.k, .int .i64 ev.n, .string ev.t, .slice ev.na ev.nl ev.nc, .slice ev.ia ev.il ev.ic], .int .i64 0]) (by simp [results, Tryz.results46, go_sem, r0, r1, r2, r3, r4, r5, r6, r7, r8]) rfl ?_
           have hst := stM_chg wb (vb + 1) kk ci cc ct ev
           have hcE := (((((Hc1.out.trans Hc2.out).trans Hc4.out).trans Hc6.out).trans HW.out).trans (Hca.out.trans Hcb.out))
           have hvl := (show JV _ f wb ev.val (candB j n) from JN.same Hj4.out ((Hc6.out.trans HW.out).trans (Hca.out.trans Hcb.out)))
           have hlt1 := lt_of_obj Hr1.out
           have hjE : JN w.heap.size f (stM wb (vb + 1) kk ci cc ct ev) ev.val (candB j n) := (hvl.kept hst.toP fun x hx hm => by have := List.mem_singleton.1 hm; have := hx.1; omega).imp fun x hx => ⟨Nat.le_trans Hc1.out.size hx.1, Nat.lt_of_lt_of_le hx.2 hst.size⟩
           have hend : DePost f j w (.returned (.tuple #[mB kk ci cc ct ev, .int .i64 0])) (stM wb (vb + 1) kk ci cc ct ev) := by
            refine ⟨Or.inl ⟨n, hlt, by rw [Hhit.out]; simp, Hs.out.1, ev, ?_, hjE⟩, hcE.comp hst fun x hx => Or.inr (by have := List.mem_singleton.1 hx; have := Hvb.out; omega)⟩
            rw [Heq.out.1, Heq.out.2.1, Heq.out.2.2.1, Heq.out.2.2.2.1]
           exact hend
       · skip
         obtain ⟨⟨x0, x1, x2, x3, x4, x5, x6, x7, x8⟩, xf, xl⟩ := nineM ((Hca.out.block bm (lt_of_obj HB.out.2.2.1) (by simp)).trans HB.out.2.2.1)
         obtain ⟨⟨r0, r1, r2, r3, r4, r5, r6, r7, r8⟩, rf, rl⟩ := nineM ((Hca.out.block (vb + 1) (lt_of_obj HB.out.2.2.2.2) (by simp)).trans HB.out.2.2.2.2)
         go_wp2_with fail
         refine bodyPost_ret (v := .tuple #[.agg #[.int .i64 kk, .int .i64 ci, .int .i64 cc, .string ct, .int .i64 ev.k, .int .i64 ev.n, .string ev.t, .slice ev.na ev.nl ev.nc, .slice ev.ia ev.il ev.ic], .int .i64 0]) (by simp [results, Tryz.results46, go_sem, r0, r1, r2, r3, r4, r5, r6, r7, r8]) rfl ?_
         have hst := stM_chg wa (vb + 1) kk ci cc ct ev
         have hcE := (((((Hc1.out.trans Hc2.out).trans Hc4.out).trans Hc6.out).trans HW.out).trans Hca.out)
         have hvl := (show JV _ f wa ev.val (candB j n) from JN.same Hj4.out ((Hc6.out.trans HW.out).trans Hca.out))
         have hlt1 := lt_of_obj Hr1.out
         have hjE : JN w.heap.size f (stM wa (vb + 1) kk ci cc ct ev) ev.val (candB j n) := (hvl.kept hst.toP fun x hx hm => by have := List.mem_singleton.1 hm; have := hx.1; omega).imp fun x hx => ⟨Nat.le_trans Hc1.out.size hx.1, Nat.lt_of_lt_of_le hx.2 hst.size⟩
         have hend : DePost f j w (.returned (.tuple #[mB kk ci cc ct ev, .int .i64 0])) (stM wa (vb + 1) kk ci cc ct ev) := by
          refine ⟨Or.inl ⟨n, hlt, by rw [Hhit.out]; simp, Hs.out.1, ev, ?_, hjE⟩, hcE.comp hst fun x hx => Or.inr (by have := List.mem_singleton.1 hx; have := Hvb.out; omega)⟩
          rw [Heq.out.1, Heq.out.2.1, Heq.out.2.2.1, Heq.out.2.2.2.1]
         exact hend
     cases c3
     · cases hd3
     · clear hd3
       go_wp2_with fail
       refine HN.out.mono ?_
       rintro e w8 ⟨rfl, hc8⟩
       have Hc8 := Lib.hid hc8
       have y0 := (hc8.cell (lt_of_cell y0) (by simp)).trans y0
       have y1 := (hc8.cell (lt_of_cell y1) (by simp)).trans y1
       have y2 := (hc8.cell (lt_of_cell y2) (by simp)).trans y2
       have y3 := (hc8.cell (lt_of_cell y3) (by simp)).trans y3
       have y4 := (hc8.cell (lt_of_cell y4) (by simp)).trans y4
       have x0 := (hc8.cell (lt_of_cell x0) (by simp)).trans x0
       clear hc8
       have ys0 := y3
       have hcut1 : (la : Int) ≤ (enc : Int) := by have := HLL.out; omega
       have hcut2 : (la : Int) ≤ (eic : Int) := by have := HLL.out; omega
       have hbsx := ((Hc8.out).block bs (lt_of_obj Hb7.out) (by simp)).trans Hb7.out
       have HO := Lib.hid (fun W => object_any (some ⟨gn, on, none⟩) eia la enc la eic W)
       have HbX := Lib.hid hbsx
       clear hbsx x1 x2 x3 x4 x5 x6 x7 x8 xf xl
       go_upto_region 9 with fail
       refine wp_region_readsQ 8 (by kernel_rfl) (by kernel_rfl) ?_
       intro W0 hW0
       have Hd0 : Hid (Chg [] w8 W0) := Lib.hid (by rw [hW0]; exact (Chg.refl _ _).drew)
       have y3 := (Hd0.out.cell (lt_of_cell y3) (by simp)).trans y3
       have y4 := (Hd0.out.cell (lt_of_cell y4) (by simp)).trans y4
       clear hW0
       simp only [List.take_succ_cons, List.take_zero, List.drop_succ_cons, List.drop_zero]
       repeat go_big_quiet_step (fail)
       refine wpQuiet_nil ?_
       go_wp2_with fail
       refine (HO.out W0).mono ?_
       rintro e wo ⟨rfl, hco⟩
       have hbo := ((Hd0.out.trans hco).block bs (lt_of_obj HbX.out) (by simp)).trans HbX.out
       obtain ⟨t0, t1, t2, t3, t4⟩ := box_kept bs hbo (Chg.refl [] wo)
       have tf := fun i => frozen_of_heap (i := i) hbo
       have tl := lt_of_cell t0
       obtain ⟨w9, hw9⟩ : ∃ y, y = (((((wo.setCell ⟨bs, 0, none⟩ (.int .i64 5)).setCell ⟨bs, 1, none⟩ (.int .i64 0)).setCell ⟨bs, 2, none⟩ (.string ⟨#[]⟩)).setCell ⟨bs, 3, none⟩ (.slice (some ⟨gn, on, none⟩) la enc)).setCell ⟨bs, 4, none⟩ (.slice eia la eic)) := ⟨_, rfl⟩
       have hst9 : Chg [bs] wo w9 := by rw [hw9]; exact st5_chg wo bs 0 ⟨5, 0, ⟨#[]⟩, some ⟨gn, on, none⟩, la, enc, eia, la, eic⟩
       have hb9 : w9.heap[bs]? = some (.cells #[.int .i64 5, .int .i64 0, .string ⟨#[]⟩, .slice (some ⟨gn, on, none⟩) la enc, .slice eia la eic] 59 (0, 0)) := by rw [hw9]; exact st5_heap hbo ⟨5, 0, ⟨#[]⟩, some ⟨gn, on, none⟩, la, enc, eia, la, eic⟩
       have HcS : Hid (Chg [] w6 w9) := Lib.hid ((((Hc7.out.trans Hc8.out).trans Hd0.out).trans hco).comp hst9 fun x hx => Or.inr (by have := List.mem_singleton.1 hx; have := Hbs.out; omega))
       have HbS := Lib.hid hb9
       have HsW : Hid (JN w4.heap.size f5 w9 (Ev.val ⟨5, 0, ⟨#[]⟩, some ⟨gn, on, none⟩, la, enc, eia, la, eic⟩) (shortN j n)) := Lib.hid (by
        have hsh : shortN j n = shortJ (encN j n).2 := if_pos (by rw [Hsh.out]; rfl)
        have hv9 := JN.same He6.out HcS.out
        obtain ⟨na, nc, ia, ic, hv, hns, hes, _, _, _⟩ := hv9.shape
        unfold Ev.val at hv
        simp only [Value.agg.injEq, Array.mk.injEq, List.cons.injEq, Value.slice.injEq, and_true, true_and] at hv
        obtain ⟨_, _, _, ⟨e1, e2, e3⟩, e4, e5, e6⟩ := hv
        rw [← e1, ← e3, ← e2] at hns
        rw [← e4, ← e6, ← e5] at hes
        have hla := Hla.out
        rw [hsh]
        unfold shortJ
        rw [HL.out.2.1, ← hla]
        have hlle : la ≤ eil := by omega
        exact JN.mk (Jv.SlR.take (n := eil) hns hlle) (Jv.SlR.take (n := eil) hes hlle) (show (ByteArray.mk #[]).size ≤ maxLen by decide))
       clear hco hbo hst9 hb9 y0 y1 y2 y3 y4 x0
       go_upto_region 10 with fail
       rw [← hw9]
       clear hw9 t0 t1 t2 t3 t4 tf tl
       clear hla1 hla0 hwr hbq hk5 q9 ly
       have HW : Hid (Chg [] w6 w9) := Lib.hid (HcS.out)
       have hWj := ((((Hc2.out.trans Hc4.out).trans Hc6.out).trans HW.out).block vb (lt_of_obj Hm1.out) (by simp)).trans Hm1.out
       have hWe := (HW.out.block be (lt_of_obj Hb6.out) (by simp)).trans Hb6.out
       have hWm := ((Hc6.out.trans HW.out).block bm (lt_of_obj Hb4.out) (by simp)).trans Hb4.out
       have hWs := HbS.out
       have hWr := ((((Hc2.out.trans Hc4.out).trans Hc6.out).trans HW.out).block (vb + 1) (lt_of_obj Hr1.out) (by simp)).trans Hr1.out
       have HjW := Lib.hid (Hj.out w9 ((((Hc1.out.trans Hc2.out).trans Hc4.out).trans Hc6.out).trans HW.out))
       have HeW : Hid (JN w4.heap.size f5 w9 (Ev.val ⟨ek, en, et, some ⟨gn, on, none⟩, eil, enc, eia, eil, eic⟩) (encN j n).2) := Lib.hid (JN.same He6.out HW.out)
       have HTW := Lib.hid (HT.out.new ((((Hc1.out.trans Hc2.out).trans Hc4.out).trans Hc6.out).trans HW.out))
       have HpW := Lib.hid (fun g (hg : p g) => Nat.lt_of_lt_of_le (Hp.out g hg) ((((Hc1.out.trans Hc2.out).trans Hc4.out).trans Hc6.out).trans HW.out).size)
       have HB := Lib.hid (And.intro hWj (And.intro hWe (And.intro hWm (And.intro hWs hWr))))
       obtain ⟨b0, b1, b2, b3, b4⟩ := box_kept vb hWj (Chg.refl [] w9)
       obtain ⟨d0, d1, d2, d3, d4⟩ := box_kept be hWe (Chg.refl [] w9)
       have Heq1 := Lib.hid (Equal_any p _ f f5 w9 j (encN j n).2 _ _ HjW.out HeW.out HpW.out (fun g hg => hg.2) HTW.out)
       unfold Ev.val at Heq1
       clear hWj hWe hWm hWs hWr
       obtain ⟨q1, hq1⟩ : ∃ q, q = j.equal Jv.u8 (encN j n).2 := ⟨_, rfl⟩
       rw [← hq1] at Heq1 Hhit
       clear hq1
       go_wp2_with fail
       refine Heq1.out.mono ?_
       rintro e wa ⟨rfl, hca⟩
       have Hca := Lib.hid hca
       clear hca b0 b1 b2 b3 b4 d0 d1 d2 d3 d4
       cases q1
       · skip
         have hsa := (Hca.out.block bs (lt_of_obj HB.out.2.2.2.1) (by simp)).trans HB.out.2.2.2.1
         have hja := (Hca.out.block vb (lt_of_obj HB.out.1) (by simp)).trans HB.out.1
         obtain ⟨b0, b1, b2, b3, b4⟩ := box_kept vb hja (Chg.refl [] wa)
         obtain ⟨d0, d1, d2, d3, d4⟩ := box_kept bs hsa (Chg.refl [] wa)
         have Heq2 := Lib.hid (Equal_any p _ f f5 wa j (shortN j n) _ _ (HjW.out.chg Hca.out) (JN.same HsW.out Hca.out) (fun g hg => Nat.lt_of_lt_of_le (HpW.out g hg) Hca.out.size) (fun g hg => hg.2) (HTW.out.new Hca.out))
         unfold Ev.val at Heq2
         obtain ⟨q2, hq2⟩ : ∃ q, q = j.equal Jv.u8 (shortN j n) := ⟨_, rfl⟩
         rw [← hq2] at Heq2 Hhit
         clear hq2 hsa hja
         go_wp2_with fail
         refine Heq2.out.mono ?_
         rintro e wb ⟨rfl, hcb⟩
         have Hcb := Lib.hid hcb
         clear hcb b0 b1 b2 b3 b4 d0 d1 d2 d3 d4
         cases q2
         · skip
           go_wp2_with fail
           exact ⟨⟨n + 1, by omega, by go_num, Lib.hid ⟨fun m hm => by
            by_cases hmn : m < n
            · exact Hs.out.1 m hmn
            · rw [show m = n by omega]; exact Hhit.out, (((Hc4.out.trans Hc6.out).trans HW.out).trans Hca.out).trans Hcb.out⟩⟩, by simp [intOf]; omega⟩
         · skip
           obtain ⟨⟨x0, x1, x2, x3, x4, x5, x6, x7, x8⟩, xf, xl⟩ := nineM (((Hca.out.trans Hcb.out).block bm (lt_of_obj HB.out.2.2.1) (by simp)).trans HB.out.2.2.1)
           obtain ⟨⟨r0, r1, r2, r3, r4, r5, r6, r7, r8⟩, rf, rl⟩ := nineM (((Hca.out.trans Hcb.out).block (vb + 1) (lt_of_obj HB.out.2.2.2.2) (by simp)).trans HB.out.2.2.2.2)
           go_wp2_with fail
           refine bodyPost_ret (v := .tuple #[.agg #[.int .i64 kk, .int .i64 ci, .int .i64 cc, .string ct, .int .i64 ev.k, .int .i64 ev.n, .string ev.t, .slice ev.na ev.nl ev.nc, .slice ev.ia ev.il ev.ic], .int .i64 0]) (by simp [results, Tryz.results46, go_sem, r0, r1, r2, r3, r4, r5, r6, r7, r8]) rfl ?_
           have hst := stM_chg wb (vb + 1) kk ci cc ct ev
           have hcE := (((((Hc1.out.trans Hc2.out).trans Hc4.out).trans Hc6.out).trans HW.out).trans (Hca.out.trans Hcb.out))
           have hvl := (show JV _ f wb ev.val (candB j n) from JN.same Hj4.out ((Hc6.out.trans HW.out).trans (Hca.out.trans Hcb.out)))
           have hlt1 := lt_of_obj Hr1.out
           have hjE : JN w.heap.size f (stM wb (vb + 1) kk ci cc ct ev) ev.val (candB j n) := (hvl.kept hst.toP fun x hx hm => by have := List.mem_singleton.1 hm; have := hx.1; omega).imp fun x hx => ⟨Nat.le_trans Hc1.out.size hx.1, Nat.lt_of_lt_of_le hx.2 hst.size⟩
           have hend : DePost f j w (.returned (.tuple #[mB kk ci cc ct ev, .int .i64 0])) (stM wb (vb + 1) kk ci cc ct ev) := by
            refine ⟨Or.inl ⟨n, hlt, by rw [Hhit.out]; simp, Hs.out.1, ev, ?_, hjE⟩, hcE.comp hst fun x hx => Or.inr (by have := List.mem_singleton.1 hx; have := Hvb.out; omega)⟩
            rw [Heq.out.1, Heq.out.2.1, Heq.out.2.2.1, Heq.out.2.2.2.1]
           exact hend
       · skip
         obtain ⟨⟨x0, x1, x2, x3, x4, x5, x6, x7, x8⟩, xf, xl⟩ := nineM ((Hca.out.block bm (lt_of_obj HB.out.2.2.1) (by simp)).trans HB.out.2.2.1)
         obtain ⟨⟨r0, r1, r2, r3, r4, r5, r6, r7, r8⟩, rf, rl⟩ := nineM ((Hca.out.block (vb + 1) (lt_of_obj HB.out.2.2.2.2) (by simp)).trans HB.out.2.2.2.2)
         go_wp2_with fail
         refine bodyPost_ret (v := .tuple #[.agg #[.int .i64 kk, .int .i64 ci, .int .i64 cc, .string ct, .int .i64 ev.k, .int .i64 ev.n, .string ev.t, .slice ev.na ev.nl ev.nc, .slice ev.ia ev.il ev.ic], .int .i64 0]) (by simp [results, Tryz.results46, go_sem, r0, r1, r2, r3, r4, r5, r6, r7, r8]) rfl ?_
         have hst := stM_chg wa (vb + 1) kk ci cc ct ev
         have hcE := (((((Hc1.out.trans Hc2.out).trans Hc4.out).trans Hc6.out).trans HW.out).trans Hca.out)
         have hvl := (show JV _ f wa ev.val (candB j n) from JN.same Hj4.out ((Hc6.out.trans HW.out).trans Hca.out))
         have hlt1 := lt_of_obj Hr1.out
         have hjE : JN w.heap.size f (stM wa (vb + 1) kk ci cc ct ev) ev.val (candB j n) := (hvl.kept hst.toP fun x hx hm => by have := List.mem_singleton.1 hm; have := hx.1; omega).imp fun x hx => ⟨Nat.le_trans Hc1.out.size hx.1, Nat.lt_of_lt_of_le hx.2 hst.size⟩
         have hend : DePost f j w (.returned (.tuple #[mB kk ci cc ct ev, .int .i64 0])) (stM wa (vb + 1) kk ci cc ct ev) := by
          refine ⟨Or.inl ⟨n, hlt, by rw [Hhit.out]; simp, Hs.out.1, ev, ?_, hjE⟩, hcE.comp hst fun x hx => Or.inr (by have := List.mem_singleton.1 hx; have := Hvb.out; omega)⟩
          rw [Heq.out.1, Heq.out.2.1, Heq.out.2.2.1, Heq.out.2.2.2.1]
         exact hend
  · obtain rfl : n = 5 := by omega
    have hr := ((Hc2.out.trans Hs.out.2).block (vb + 1) (lt_of_obj Hr1.out) (by simp)).trans Hr1.out
    obtain ⟨⟨r0, r1, r2, r3, r4, r5, r6, r7, r8⟩, rf, rl⟩ := nineM hr
    clear hr
    go_wp2_with fail
    refine bodyPost_ret (v := .tuple #[.agg #[.int .i64 0, .int .i64 0, .int .i64 0, .string ⟨#[]⟩, .int .i64 0, .int .i64 0, .string ⟨#[]⟩, .slice none 0 0, .slice none 0 0], .int .i64 3]) (by simp [results, Tryz.results46, go_sem, r0, r1, r2, r3, r4, r5, r6, r7, r8]) rfl ?_
    have hst := stM_chg wr (vb + 1) 0 0 0 ⟨#[]⟩ ev0
    exact ⟨Or.inr ⟨Hs.out.1, rfl⟩, ((Hc1.out.trans Hc2.out).trans Hs.out.2).comp hst fun x hx => Or.inr (by have := List.mem_singleton.1 hx; have := Hvb.out; omega)⟩
theorem rdS_same {p : Nat → Prop} {w w' : World} {v : Value} {l : List ByteArray} (h : SlR p 1 rdS w v l) (hc : Chg [] w w') : SlR p 1 rdS w' v l := strs_kept (S := fun _ => False) h hc.p (fun _ _ h => h)
set_option maxHeartbeats 4000000 in
theorem eqNs_any (p q : Nat → Prop) (w : World) (v1 v2 : Value) (E : List ByteArray) (h1 : SlR p 1 rdS w v1 E) (h2 : SlR q 1 rdS w v2 E) :
 Calls Tryz.prog 16 #[v1, v2] w fun e w' => e = .returned (.bool true) ∧ Chg [] w w' := by
 have H1 := Lib.hid h1
 have H2 := Lib.hid h2
 obtain ⟨a1, cap1, rfl, hml, hcp1, _⟩ := h1
 obtain ⟨a2, cap2, rfl, _, hcp2, _⟩ := h2
 unfold maxLen at hcp1
 go_enter Tryz.func16, Tryz.ntmps16
 go_wp2_with fail
 go_loopw [14] (fun i wr => ∃ k : Nat, k ≤ E.length ∧ i = .int .i64 (k : Nat) ∧ Chg [] w wr) (fun i _ => E.length - (intOf i).toNat)
 case atStart => exact ⟨0, by omega, rfl, Chg.refl _ _⟩
 case round =>
  obtain ⟨k, hk, rfl, hc⟩ := hrel
  by_cases hlt : k < E.length
  · obtain ⟨g, off, rfl, hp, c0, _⟩ := SlR.at (rdS_same H1.out hc) k hlt default
    obtain ⟨g2, off2, rfl, hp2, d0, _⟩ := SlR.at (rdS_same H2.out hc) k hlt default
    obtain ⟨x, hr⟩ : ∃ r, E.getD k default = r := ⟨_, rfl⟩
    rw [hr] at c0 d0
    rw [Nat.mul_one] at c0 d0
    have Hc := Lib.hid hc
    have hk1 : (k : Int) < E.length := by omega
    clear hr hc
    go_wp2_with fail
    exact ⟨⟨k + 1, by omega, by go_num, Hc.out⟩, by simp [intOf]; omega⟩
  · obtain rfl : k = E.length := by omega
    have hk1 : ¬ ((E.length : Int) < E.length) := by omega
    have Hc := Lib.hid hc
    clear hc
    go_wp2_with fail
    go_ret
    exact ⟨rfl, Hc.out⟩
set_option maxRecDepth 100000 in
set_option maxHeartbeats 8000000 in
theorem ident_any (p q : Nat → Prop) : ∀ (j : J) (f f' : Nat) (w : World) (v1 v2 : Value), JV p f w v1 j → JV q f' w v2 j → Calls Tryz.prog 47 #[v1, v2] w fun e w' => e = .returned (.bool true) ∧ Chg [] w w' := by
 refine J.ind fun k n t ns es ih f f' w v1 v2 h1 h2 => ?_
 obtain ⟨na, nc, a, cap, rfl, hns, hes, _, ⟨hl1, hl2⟩, hts⟩ := h1.shape
 obtain ⟨na', nc', a', cap', rfl, hns', hes', _, ⟨hl1', hl2'⟩, hts'⟩ := h2.shape
 simp only [J.kind, J.num, J.text, J.names, J.elems] at hns hes hl1 hl2 hts hns' hes' hl1' hl2' hts' ⊢
 unfold maxLen at hl2
 obtain ⟨w2, hw2⟩ : ∃ x, x = (w.alloc (.cells #[.int .i64 k, .int .i64 n, .string t, .slice na ns.length nc, .slice a es.length cap] 59)).alloc (.cells #[.int .i64 k, .int .i64 n, .string t, .slice na' ns.length nc', .slice a' es.length cap'] 59) := ⟨_, rfl⟩
 have hc2 : Chg [] w w2 := by rw [hw2]; exact ((Chg.refl [] w).alloc _).alloc _
 obtain ⟨b, hb⟩ : ∃ b, b = w.heap.size := ⟨_, rfl⟩
 have hb2 : w2.heap[b]? = some (.cells #[.int .i64 k, .int .i64 n, .string t, .slice na ns.length nc, .slice a es.length cap] 59 (0, 0)) := by
  rw [hw2, hb, heap_past _ _ _ (by simp)]
  exact heap_at _ _ _ rfl
 have hr2 : w2.heap[b + 1]? = some (.cells #[.int .i64 k, .int .i64 n, .string t, .slice na' ns.length nc', .slice a' es.length cap'] 59 (0, 0)) := by rw [hw2, hb]; exact heap_at _ _ _ (by simp)
 have Heq := Lib.hid (eqNs_any p q w2 _ _ ns (rdS_same hns hc2) (rdS_same hns' hc2))
 obtain ⟨b0, b1, b2, b3, b4⟩ := box_kept b hb2 (Chg.refl [] w2)
 obtain ⟨r0, r1, r2, r3, r4⟩ := box_kept (b + 1) hr2 (Chg.refl [] w2)
 have lb := lt_of_cell b0
 have lr := lt_of_cell r0
 have Hb2 := Lib.hid (And.intro hb2 hr2)
 have Hes := Lib.hid (And.intro hes hes')
 have Hc2 := Lib.hid hc2
 clear hns hes hns' hes' hc2 hb2 hr2 h1 h2 hts hts'
 go_enter Tryz.func47, Tryz.ntmps47
 go_upto_region 1 with fail
 rw [← hw2, ← hb]
 clear hw2 hb
 go_wp2_with fail
 refine Heq.out.mono ?_
 rintro e w3 ⟨rfl, hc3⟩
 obtain ⟨b0, b1, b2, b3, b4⟩ := box_kept b Hb2.out.1 hc3
 obtain ⟨r0, r1, r2, r3, r4⟩ := box_kept (b + 1) Hb2.out.2 hc3
 have Hc3 := Lib.hid hc3
 clear hc3
 go_wp2_with fail
 go_loopw [5, 6] (fun sv iv wr => ∃ i : Nat, i ≤ es.length ∧ sv = .bool true ∧ iv = .int .i64 (i : Nat) ∧ Hid (Chg [] w2 wr)) (fun _ iv _ => es.length - (intOf iv).toNat)
 case atStart => exact ⟨0, by omega, rfl, rfl, Hc3⟩
 case round =>
  obtain ⟨i, hi, rfl, rfl, Hc⟩ := hrel
  obtain ⟨b0, b1, b2, b3, b4⟩ := box_kept b Hb2.out.1 Hc.out
  obtain ⟨r0, r1, r2, r3, r4⟩ := box_kept (b + 1) Hb2.out.2 Hc.out
  by_cases hlt : i < es.length
  · have hij : (i : Int) < es.length := by omega
    have hi0 : (0 : Int) ≤ i := by omega
    go_upto_region 5 with fail
    refine wp_region_readsQ 10 (by kernel_rfl) (by kernel_rfl) ?_
    intro wd hwd
    simp only [List.take_succ_cons, List.take_zero, List.drop_succ_cons, List.drop_zero]
    have hcd : Chg [] wr wd := by rw [hwd]; exact (Chg.refl [] wr).drew
    clear hwd b0 b1 b2 b3 b4 r0 r1 r2 r3 r4
    obtain ⟨b0, b1, b2, b3, b4⟩ := box_kept b Hb2.out.1 (Hc.out.trans hcd)
    obtain ⟨r0, r1, r2, r3, r4⟩ := box_kept (b + 1) Hb2.out.2 (Hc.out.trans hcd)
    have hw2r := (Hc2.out.trans Hc.out).trans hcd
    have hes1 : SlR p 5 (rdJ p f) wd (.slice a es.length cap) es := SlR.imp Hes.out.1 (fun _ h => h) fun ad x hp hx => rdJ.kept (S := fun _ => False) hw2r.p (fun g hg e => e) hp hx
    have hes2 : SlR q 5 (rdJ q f') wd (.slice a' es.length cap') es := SlR.imp Hes.out.2 (fun _ h => h) fun ad x hp hx => rdJ.kept (S := fun _ => False) hw2r.p (fun g hg e => e) hp hx
    obtain ⟨g, off, xa, xc, ya, yc, rfl, _, e0, e1, e2, e3, e4, f1, rfl, hj1⟩ := elem_at hes1 hlt
    obtain ⟨g', off', xa', xc', ya', yc', rfl, _, d0, d1, d2, d3, d4, f2, rfl, hj2⟩ := elem_at hes2 hlt
    obtain ⟨el, hel⟩ : ∃ el, el = es[i] := ⟨_, rfl⟩
    have hmem : el ∈ es := hel ▸ List.getElem_mem hlt
    rw [← hel] at e0 e1 e2 e3 e4 hj1 d0 d1 d2 d3 d4 hj2
    have lg := lt_of_cell e0
    have lg' := lt_of_cell d0
    have Hcall := Lib.hid (ih el hmem f1 f2 wd _ _ hj1 hj2)
    have Hcd := Lib.hid (Hc.out.trans hcd)
    clear hel hmem hj1 hj2 hes1 hes2 hw2r hcd
    repeat go_big_quiet_step (fail)
    refine wpQuiet_nil ?_
    go_wp2_with fail
    refine Hcall.out.mono ?_
    rintro e w5 ⟨rfl, hc5⟩
    have H5 := Lib.hid (Hcd.out.trans hc5)
    clear hc5
    go_wp2_with fail
    exact ⟨⟨i + 1, by omega, rfl, by go_num, H5⟩, by simp [intOf]; omega⟩
  · obtain rfl : i = es.length := by omega
    have hij : ¬ ((es.length : Int) < es.length) := by omega
    go_wp2_with fail
    go_ret
    exact ⟨rfl, Hc2.out.trans Hc.out⟩
set_option maxRecDepth 100000 in
set_option maxHeartbeats 4000000 in
theorem eqM_any (p q : Nat → Prop) (f f' : Nat) (w : World) (k i c : Int) (t : ByteArray) (e1 e2 : Ev) (b : J) (h1 : JV p f w e1.val b) (h2 : JV q f' w e2.val b) : Calls Tryz.prog 22 #[mB k i c t e1, mB k i c t e2] w fun e w' => e = .returned (.bool true) ∧ Chg [] w w' := by
 unfold mB
 obtain ⟨w1, hw1⟩ : ∃ x, x = (w.alloc (.cells #[.int .i64 k, .int .i64 i, .int .i64 c, .string t, .int .i64 e1.k, .int .i64 e1.n, .string e1.t, .slice e1.na e1.nl e1.nc, .slice e1.ia e1.il e1.ic] 61)).alloc (.cells #[.int .i64 k, .int .i64 i, .int .i64 c, .string t, .int .i64 e2.k, .int .i64 e2.n, .string e2.t, .slice e2.na e2.nl e2.nc, .slice e2.ia e2.il e2.ic] 61) := ⟨_, rfl⟩
 obtain ⟨mb, hmb⟩ : ∃ x, x = w.heap.size := ⟨_, rfl⟩
 have hc1 : Chg [] w w1 := by rw [hw1]; exact ((Chg.refl _ _).alloc _).alloc _
 have hm1 : w1.heap[mb]? = some (.cells #[.int .i64 k, .int .i64 i, .int .i64 c, .string t, .int .i64 e1.k, .int .i64 e1.n, .string e1.t, .slice e1.na e1.nl e1.nc, .slice e1.ia e1.il e1.ic] 61 (0, 0)) := by
  rw [hw1, hmb, heap_past _ _ _ (by simp)]
  exact heap_at _ _ _ rfl
 have hr1 : w1.heap[mb + 1]? = some (.cells #[.int .i64 k, .int .i64 i, .int .i64 c, .string t, .int .i64 e2.k, .int .i64 e2.n, .string e2.t, .slice e2.na e2.nl e2.nc, .slice e2.ia e2.il e2.ic] 61 (0, 0)) := by
  rw [hw1, hmb]
  exact heap_at _ _ _ (by simp)
 obtain ⟨⟨x0, x1, x2, x3, x4, x5, x6, x7, x8⟩, xf, xl⟩ := nineM hm1
 obtain ⟨⟨y0, y1, y2, y3, y4, y5, y6, y7, y8⟩, yf, yl⟩ := nineM hr1
 have HI := Lib.hid (ident_any p q b f f' w1 _ _ (h1.chg hc1) (h2.chg hc1))
 unfold Ev.val at HI
 have Hc1 := Lib.hid hc1
 have hkk : (k == k) = true := beq_self_eq_true _
 have hii : (i == i) = true := beq_self_eq_true _
 have hcc : (c == c) = true := beq_self_eq_true _
 have htt : (t.toList == t.toList) = true := beq_self_eq_true _
 clear h1 h2 hc1 hm1 hr1 xf yf
 go_enter Tryz.func22, Tryz.ntmps22
 go_upto_region 1 with fail
 rw [← hw1, ← hmb]
 clear hw1 hmb
 go_wp2_with fail
 refine HI.out.mono ?_
 rintro e w2 ⟨rfl, hc2⟩
 have Hc2 := Lib.hid (Hc1.out.trans hc2)
 clear hc2
 go_wp2_with fail
 go_ret
 exact ⟨rfl, Hc2.out⟩
end Go.Proofs.YtjlknaahpjiibaaGreatDoor.Jv
namespace Go.Proofs.YtjlknaahpjiibaaGreatDoor.Jv
set_option linter.unusedVariables false
set_option linter.unusedSimpArgs false
def topRev (E : J) : J := .mk 5 0 ⟨#[]⟩ E.names.reverse E.elems.reverse
theorem topRev_valid {u : ByteArray → Bool} {ns : List ByteArray} {es : List J} (h : (J.mk 5 0 ⟨#[]⟩ ns es).valid u = 0) : (topRev (.mk 5 0 ⟨#[]⟩ ns es)).valid u = 0 := by
 obtain ⟨h1, h2, h3⟩ := valid_parts h
 obtain ⟨a1, a2, a3⟩ := vd_zero.1 h3
 have hn : (topRev (.mk 5 0 ⟨#[]⟩ ns es)).nodes = (J.mk 5 0 ⟨#[]⟩ ns es).nodes := by
  show (J.mk 5 0 ⟨#[]⟩ ns.reverse es.reverse).nodes = _
  rw [J.nodes, J.nodes, nodesL_reverse]
 have hd : (topRev (.mk 5 0 ⟨#[]⟩ ns es)).depth = (J.mk 5 0 ⟨#[]⟩ ns es).depth := by
  show (J.mk 5 0 ⟨#[]⟩ ns.reverse es.reverse).depth = _
  rw [J.depth, J.depth, depthL_reverse]
 unfold J.valid
 rw [if_pos ⟨by rw [hn]; exact h1, by rw [hd]; exact h2⟩]
 show (J.mk 5 0 ⟨#[]⟩ ns.reverse es.reverse).vd u = 0
 refine vd_zero.2 ⟨a1, ?_, fun e he => a3 e (List.mem_reverse.1 he)⟩
 rw [List.length_reverse]
 exact wf_rev a2
theorem topRev_eq {u : ByteArray → Bool} {ns : List ByteArray} {es : List J} (h : (J.mk 5 0 ⟨#[]⟩ ns es).vd u = 0) : (topRev (.mk 5 0 ⟨#[]⟩ ns es)).eq (.mk 5 0 ⟨#[]⟩ ns es) = true := by
 obtain ⟨a1, a2, a3⟩ := vd_zero.1 h
 obtain ⟨a, b⟩ := wf_obj a2
 show (J.mk 5 0 ⟨#[]⟩ ns.reverse es.reverse).eq _ = true
 rw [J.eq]
 simp only [J.kind, J.num, J.text, J.elems, J.names, List.length_reverse, and_self, decide_true, Bool.true_and]
 refine eqL_all fun j hj => ?_
 have hj' : j < es.length := by simpa using hj
 refine ⟨es[es.length - 1 - j]'(by omega), ?_, ?_⟩
 · unfold cp
   rw [Nat.zero_add, if_neg (by simp), List.getElem?_reverse (by omega), List.getElem?_eq_getElem (show ns.length - 1 - j < ns.length by omega)]
   simp only [J.names, J.elems]
   rw [findIdx_nodup b, show ns.length - 1 - j = es.length - 1 - j by omega, List.getElem?_eq_getElem (by omega)]
 · have e1 : es.reverse[j] = (es[es.length - 1 - j]'(by omega)) := List.getElem_reverse _
   rw [e1]
   exact eq_self (u := u) _ (a3 _ (List.getElem_mem _))
theorem eqL_some {k : Int} {ns : List ByteArray} {b : J} : ∀ {es : List J} {i : Nat}, eqL k ns b i es = true → ∀ j (hj : j < es.length), ∃ b', cp k ns b (i + j) = some b' ∧ es[j].eq b' = true
 | [], i, h, j, hj => absurd hj (by simp)
 | e :: es, i, h, 0, hj => by
   rw [eqL, Bool.and_eq_true] at h
   cases hc : cp k ns b i with
   | none => rw [hc] at h; exact absurd h.1 (by simp)
   | some b' => rw [hc] at h; exact ⟨b', rfl, h.1⟩
 | e :: es, i, h, j + 1, hj => by
   rw [eqL, Bool.and_eq_true] at h
   obtain ⟨b', h1, h2⟩ := eqL_some h.2 j (by simpa using hj)
   exact ⟨b', by rw [show i + (j + 1) = i + 1 + j by omega]; exact h1, h2⟩
theorem eq_parts {k n : Int} {t : ByteArray} {ns : List ByteArray} {es : List J} {B : J} (h : (J.mk k n t ns es).eq B = true) : (k = B.kind ∧ n = B.num ∧ t = B.text ∧ es.length = B.elems.length ∧ ns.length = B.names.length) ∧ ∀ j (hj : j < es.length), ∃ b', cp k ns B j = some b' ∧ es[j].eq b' = true := by
 rw [J.eq, Bool.and_eq_true, decide_eq_true_eq] at h
 refine ⟨h.1, fun j hj => ?_⟩
 have := eqL_some h.2 j hj
 rwa [Nat.zero_add] at this
theorem eq_len {k n : Int} {t : ByteArray} {ns : List ByteArray} {es : List J} {B : J} (h : es.length ≠ B.elems.length) : (J.mk k n t ns es).eq B = false := by
 cases hb : (J.mk k n t ns es).eq B with
 | false => rfl
 | true => exact absurd (eq_parts hb).1.2.2.2.1 h
theorem eq_miss {k n : Int} {t : ByteArray} {ns : List ByteArray} {es : List J} {B : J} (i : Nat) (hi : i < es.length) (h : cp k ns B i = none) : (J.mk k n t ns es).eq B = false := by
 cases hb : (J.mk k n t ns es).eq B with
 | false => rfl
 | true =>
   obtain ⟨b', h1, _⟩ := (eq_parts hb).2 i hi
   rw [h] at h1
   cases h1
theorem equal_no {A B : J} (h : A.eq B = false) : A.equal u8 B = false := by unfold J.equal; rw [h, Bool.and_false]
theorem equal_yes {A B : J} (h1 : A.valid u8 = 0) (h2 : B.valid u8 = 0) (h : A.eq B = true) : A.equal u8 B = true := by unfold J.equal; rw [h, h1, h2]; rfl
theorem isNJ_zero {b : J} (h : isNJ b = true) : b = J.zero := by
 obtain ⟨k, n, t, ns, es⟩ := b
 unfold isNJ at h
 rw [Bool.and_eq_true, Bool.and_eq_true, Bool.and_eq_true] at h
 obtain ⟨h1, h2, h3, h4⟩ := h
 have e1 : k = 0 := of_decide_eq_true h1
 have e2 : n = 0 := of_decide_eq_true h2
 have e3 : t = ⟨#[]⟩ := of_decide_eq_true h3
 have h4 : ns.length + es.length = 0 := of_decide_eq_true h4
 subst e1
 subst e2
 subst e3
 obtain rfl : ns = [] := List.eq_nil_of_length_eq_zero (by omega)
 obtain rfl : es = [] := List.eq_nil_of_length_eq_zero (by omega)
 rfl
theorem hit_no {j : J} {n : Nat} (h : (encN j n).1 = 0 → j.eq (encN j n).2 = false ∧ j.eq (shortN j n) = false) : hit j n = false := by
 unfold hit
 by_cases h0 : (encN j n).1 = 0
 · rw [equal_no (h h0).1, equal_no (h h0).2]; simp
 · rw [decide_eq_false h0]; rfl
theorem hit_yes {j E : J} {n : Nat} (h : encN j n = (0, E)) (h1 : j.valid u8 = 0) (h2 : E.valid u8 = 0) (h3 : j.eq E = true) : hit j n = true := by
 unfold hit
 rw [h]
 show (decide ((0 : Int) = 0) && (j.equal u8 E || _)) = true
 rw [equal_yes h1 h2 h3]
 rfl
def Found (X : J) (k i c : Int) (t : ByteArray) (b : J) : Prop := ∃ n : Nat, n < 5 ∧ k = (n : Int) + 1 ∧ hit X n = true ∧ (∀ m : Nat, m < n → hit X m = false) ∧ candI X n = i ∧ candC X n = c ∧ candT X n = t ∧ candB X n = b
theorem enc_eq {k i c : Int} {t : ByteArray} {b : J} (h : (encM k i c t b).1 = 0) : encM k i c t b = (0, toM k i c t b) := (encM_ok h).2.2.2.2
theorem wfJ_parts {k i c : Int} {t : ByteArray} {b : J} (h : wfJ k i c t b = true) : (k = 2 → i = 0) ∧ (k ≠ 4 → c = 0) ∧ (k = 4 ∨ k = 5 → b = J.zero) ∧ vmM k t = true := by
 unfold wfJ at h
 simp only [Bool.and_eq_true] at h
 obtain ⟨h1, h2, h3, h4⟩ := h
 refine ⟨fun hk => ?_, fun hk => ?_, fun hk => ?_, h4⟩
 · rw [if_pos hk] at h1; simpa using h1
 · rw [if_neg hk] at h2; simpa using h2
 · rw [if_pos hk] at h3; exact isNJ_zero h3
theorem hit_off {X : J} {n : Nat} {k i c : Int} {t : ByteArray} {b : J} (he : encN X n = encM k i c t b) (h1 : X.eq (toM k i c t b) = false) (h2 : isShort X n = true → X.eq (shortJ (toM k i c t b)) = false) : hit X n = false :=
 hit_no fun h0 => by
  rw [he] at h0
  have e := enc_eq h0
  have e2 : (encN X n).2 = toM k i c t b := by rw [he, e]
  rw [e2]
  refine ⟨h1, ?_⟩
  unfold shortN
  by_cases hs : isShort X n = true
  · rw [if_pos hs, e2]; exact h2 hs
  · rw [if_neg hs, e2]; exact h1
def idT : ByteArray := ⟨#[105, 100]⟩
def meT : ByteArray := ⟨#[109, 101, 116, 104, 111, 100]⟩
section
variable {X : J} {i c : Int} {t : ByteArray} {b : J}
theorem found1 (hX : X = toM 1 i 0 t b ∨ X = topRev (toM 1 i 0 t b)) (he : encM 1 i 0 t b = (0, toM 1 i 0 t b)) (hv : X.valid u8 = 0) (hE : (toM 1 i 0 t b).valid u8 = 0) (heq : X.eq (toM 1 i 0 t b) = true) : Found X 1 i 0 t b := by
 have l1 : lk X idT = .mk 2 i ⟨#[]⟩ [] [] := by rcases hX with rfl | rfl <;> kernel_rfl
 have l2 : lk X meT = .mk 3 0 t [] [] := by rcases hX with rfl | rfl <;> kernel_rfl
 have l3 : lk X pT = b := by rcases hX with rfl | rfl <;> kernel_rfl
 have e : encN X 0 = (0, toM 1 i 0 t b) := by
  show encM 1 (lk X idT).num 0 (lk X meT).text (lk X pT) = _
  rw [l1, l2, l3]; exact he
 refine ⟨0, by decide, rfl, hit_yes e hv hE heq, fun m hm => absurd hm (by omega), ?_, rfl, ?_, ?_⟩
 · show (lk X idT).num = i; rw [l1]; rfl
 · show (lk X meT).text = t; rw [l2]; rfl
 · exact l3
theorem found2 (hX : X = toM 2 0 0 t b ∨ X = topRev (toM 2 0 0 t b)) (he : encM 2 0 0 t b = (0, toM 2 0 0 t b)) (hv : X.valid u8 = 0) (hE : (toM 2 0 0 t b).valid u8 = 0) (heq : X.eq (toM 2 0 0 t b) = true) : Found X 2 0 0 t b := by
 have l1 : lk X idT = J.zero := by rcases hX with rfl | rfl <;> kernel_rfl
 have l2 : lk X meT = .mk 3 0 t [] [] := by rcases hX with rfl | rfl <;> kernel_rfl
 have l3 : lk X pT = b := by rcases hX with rfl | rfl <;> kernel_rfl
 have e : encN X 1 = (0, toM 2 0 0 t b) := by
  show encM 2 0 0 (lk X meT).text (lk X pT) = _
  rw [l2, l3]; exact he
 have e0 : encN X 0 = encM 1 0 0 t b := by
  show encM 1 (lk X idT).num 0 (lk X meT).text (lk X pT) = _
  rw [l1, l2, l3]; rfl
 have n0 : hit X 0 = false := hit_off e0 (by rcases hX with rfl | rfl <;> exact eq_len (by simp [toM, J.elems])) (fun _ => by
  rcases hX with rfl | rfl
  · exact eq_miss 1 (show 1 < 2 by decide) (by kernel_rfl)
  · exact eq_miss 0 (show 0 < 2 by decide) (by kernel_rfl))
 refine ⟨1, by decide, rfl, hit_yes e hv hE heq, fun m hm => by obtain rfl : m = 0 := by omega
                                                                exact n0, rfl, rfl, ?_, ?_⟩
 · show (lk X meT).text = t; rw [l2]; rfl
 · exact l3
end
theorem toM_obj (k i c : Int) (t : ByteArray) (b : J) : ∃ ns es, toM k i c t b = .mk 5 0 ⟨#[]⟩ ns es := by
 unfold toM
 split
 · exact ⟨_, _, rfl⟩
 split
 · exact ⟨_, _, rfl⟩
 split
 · exact ⟨_, _, rfl⟩
 split <;> exact ⟨_, _, rfl⟩
theorem found_any {k i c : Int} {t : ByteArray} {b : J} (hk2 : k ≤ 2) (h0 : (encM k i c t b).1 = 0) {X : J} (hX : X = toM k i c t b ∨ X = topRev (toM k i c t b)) : X.valid u8 = 0 ∧ Found X k i c t b := by
 obtain ⟨hk, hw, hb, hE, he⟩ := encM_ok h0
 obtain ⟨w1, w2, w3, w4⟩ := wfJ_parts hw
 have hvd := (valid_parts hE).2.2
 have hv : X.valid u8 = 0 := by
  rcases hX with rfl | rfl
  · exact hE
  · obtain ⟨ns, es, e⟩ := toM_obj k i c t b
    rw [e] at hE ⊢
    exact topRev_valid hE
 have heq : X.eq (toM k i c t b) = true := by
  rcases hX with rfl | rfl
  · exact eq_self (u := u8) _ hvd
  · obtain ⟨ns, es, e⟩ := toM_obj k i c t b
    rw [e] at hvd ⊢
    exact topRev_eq hvd
 refine ⟨hv, ?_⟩
 have hk5 : k = 1 ∨ k = 2 := by omega
 rcases hk5 with rfl | rfl
 · obtain rfl := w2 (by decide)
   exact found1 hX he hv hE heq
 · obtain rfl := w2 (by decide)
   obtain rfl := w1 rfl
   exact found2 hX he hv hE heq
end Go.Proofs.YtjlknaahpjiibaaGreatDoor.Jv
