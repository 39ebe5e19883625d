/- Protocol messages: Decode (printed by wip/gen_jrh.py). -/
import Derived.Test.YtiklgipcgdgkoaaDoorJrH
import Derived.StillTail
import Derived.StillTailTactics
namespace Go.Proofs.YtiklgipcgdgkoaaDoor.Jv
open Go.RowKit Go.ChangeMaps Go.MapKept
set_option linter.unusedVariables false
set_option linter.unusedSimpArgs false
set_option maxRecDepth 100000 in
set_option maxHeartbeats 8000000 in
theorem decode_any (p : Nat → Prop) (f : Nat) (w : World) (j : J) (v : Value) (hj : JV p f w v j) (hp : ∀ g, p g → g < w.heap.size) (hs : Bd j) (hT : Tb w) : Calls Tryd.prog 10 #[v] w (DePost f j w) := by
  obtain ⟨ej, rfl⟩ := hj.ev'
  have Hj := Lib.hid (fun W (hc : Chg [] w W) => hj.chg hc)
  have Hp := Lib.hid hp
  have HT := Lib.hid hT
  have Hts := Lib.hid (fun n => candT_size hj n)
  unfold Ev.val at *
  obtain ⟨w1, hw1⟩ : ∃ x, x = (w.alloc (.cells #[.int .i64 ej.k, .int .i64 ej.n, .string ej.t, .slice ej.na ej.nl ej.nc, .slice ej.ia ej.il ej.ic] 25)).alloc (.cells #[.int .i64 0, .int .i64 0, .int .i64 0, .string ⟨#[]⟩, .int .i64 0, .int .i64 0, .string ⟨#[]⟩, .slice none 0 0, .slice none 0 0] 27) := ⟨_, rfl⟩
  obtain ⟨vb, hvb⟩ : ∃ x, x = w.heap.size := ⟨_, rfl⟩
  have hc1 : Chg [] w w1 := by rw [hw1]; exact ((Chg.refl _ _).alloc _).alloc _
  have hm1 : w1.heap[vb]? = some (.cells #[.int .i64 ej.k, .int .i64 ej.n, .string ej.t, .slice ej.na ej.nl ej.nc, .slice ej.ia ej.il ej.ic] 25 (0, 0)) := by
    rw [hw1, hvb, heap_past _ _ _ (by simp)]
    exact heap_at _ _ _ rfl
  have hr1 : w1.heap[vb + 1]? = some (.cells #[.int .i64 0, .int .i64 0, .int .i64 0, .string ⟨#[]⟩, .int .i64 0, .int .i64 0, .string ⟨#[]⟩, .slice none 0 0, .slice none 0 0] 27 (0, 0)) := by
    rw [hw1, hvb]
    exact heap_at _ _ _ (by simp)
  have Hvb := Lib.hid hvb
  have Hc1 := Lib.hid hc1
  have Hm1 := Lib.hid hm1
  have Hr1 := Lib.hid hr1
  have Hcd := Lib.hid (cand_any p f w1 j _ (hj.chg hc1) hs)
  obtain ⟨b0, b1, b2, b3, b4⟩ := box_kept vb hm1 (Chg.refl [] w1)
  clear hj hp hs hT hc1 hm1 hr1
  go_enter Tryd.func10, Tryd.ntmps10
  go_upto_region 1 with fail
  rw [← hw1, ← hvb]
  clear hw1 hvb
  go_wp2_with fail
  refine Hcd.out.mono ?_
  rintro e w2 ⟨g, es, rfl, hgl, hgb, hms, hc2⟩
  have Hgl := Lib.hid (And.intro hgl hgb)
  have Hms := Lib.hid hms
  have Hc2 := Lib.hid hc2
  clear hgl hgb hms hc2 b0 b1 b2 b3 b4
  go_wp2_with fail
  go_loopw [13] (fun i wr => ∃ n : Nat, n ≤ 5 ∧ i = .int .i64 (n : Nat) ∧ Hid ((∀ m, m < n → hit j m = false) ∧ Chg [] w2 wr)) (fun i _ => 5 - (intOf i).toNat)
  case atStart => exact ⟨0, by omega, rfl, Lib.hid ⟨fun m hm => absurd hm (by omega), Chg.refl _ _⟩⟩
  case round =>
    obtain ⟨n, hn, rfl, Hs⟩ := hrel
    by_cases hlt : n < 5
    · obtain ⟨hcell, hjn⟩ := Hms.out n hlt
      have m_ := fun c hc => (Hs.out.2.cell (p := ⟨g, n * 9 + c, none⟩) Hgl.out.1 (by simp)).trans (hcell c hc)
      have Hjn := Lib.hid hjn
      have HEn : Hid (encN j n = encN j n) := Lib.hid rfl
      obtain ⟨kk, hkk⟩ : ∃ kk : Int, kk = (n : Int) + 1 := ⟨_, rfl⟩
      obtain ⟨ci, hci⟩ : ∃ x, x = candI j n := ⟨_, rfl⟩
      obtain ⟨cc, hcc⟩ : ∃ x, x = candC j n := ⟨_, rfl⟩
      obtain ⟨ct, hct⟩ : ∃ x, x = candT j n := ⟨_, rfl⟩
      obtain ⟨ev, hev⟩ : ∃ x, x = es n := ⟨_, rfl⟩
      rw [show (((n + 1 : Nat) : Int)) = kk by rw [hkk]; omega, ← hci, ← hcc, ← hct, ← hev] at m_
      have m0 : wr.cell? ⟨g, n * 9, none⟩ = some (.int .i64 kk) := m_ 0 (by decide)
      have m1 : wr.cell? ⟨g, n * 9 + 1, none⟩ = some (.int .i64 ci) := m_ 1 (by decide)
      have m2 : wr.cell? ⟨g, n * 9 + 2, none⟩ = some (.int .i64 cc) := m_ 2 (by decide)
      have m3 : wr.cell? ⟨g, n * 9 + 3, none⟩ = some (.string ct) := m_ 3 (by decide)
      have m4 : wr.cell? ⟨g, n * 9 + 4, none⟩ = some (.int .i64 ev.k) := m_ 4 (by decide)
      have m5 : wr.cell? ⟨g, n * 9 + 5, none⟩ = some (.int .i64 ev.n) := m_ 5 (by decide)
      have m6 : wr.cell? ⟨g, n * 9 + 6, none⟩ = some (.string ev.t) := m_ 6 (by decide)
      have m7 : wr.cell? ⟨g, n * 9 + 7, none⟩ = some (.slice ev.na ev.nl ev.nc) := m_ 7 (by decide)
      have m8 : wr.cell? ⟨g, n * 9 + 8, none⟩ = some (.slice ev.ia ev.il ev.ic) := m_ 8 (by decide)
      have lg := lt_of_cell m0
      have Heq := Lib.hid (And.intro hkk (And.intro hci (And.intro hcc (And.intro hct hev))))
      have hn1 : (n : Int) < 5 := by omega
      have hn0 : (0 : Int) ≤ (n : Int) := by omega
      obtain ⟨w4, hw4⟩ : ∃ y, y = wr.alloc (.cells #[.int .i64 kk, .int .i64 ci, .int .i64 cc, .string ct, .int .i64 ev.k, .int .i64 ev.n, .string ev.t, .slice ev.na ev.nl ev.nc, .slice ev.ia ev.il ev.ic] 27) := ⟨_, rfl⟩
      obtain ⟨bm, hbm⟩ : ∃ y, y = wr.heap.size := ⟨_, rfl⟩
      have hc4 : Chg [] wr w4 := by rw [hw4]; exact (Chg.refl _ _).alloc _
      have hb4 : w4.heap[bm]? = some (.cells #[.int .i64 kk, .int .i64 ci, .int .i64 cc, .string ct, .int .i64 ev.k, .int .i64 ev.n, .string ev.t, .slice ev.na ev.nl ev.nc, .slice ev.ia ev.il ev.ic] 27 (0, 0)) := by rw [hw4, hbm]; exact heap_at _ _ _ rfl
      have Hc4 := Lib.hid (Hs.out.2.trans hc4)
      have Hb4 := Lib.hid hb4
      have Hj4 := Lib.hid (show JN w1.heap.size f w4 ev.val (candB j n) by rw [hev]; exact Hjn.out.same Hc4.out)
      have HE := Lib.hid (encode_b _ f kk ci cc ct ev (candB j n) w4 (by rw [hct]; exact Hts.out n) Hj4.out (fun g hg => hg.2) (HT.out.new ((Hc1.out.trans Hc2.out).trans Hc4.out)))
      have HEe : Hid (encM kk ci cc ct (candB j n) = encN j n) := Lib.hid (by rw [hkk, hci, hcc, hct]; rfl)
      rw [HEe.out] at HE
      unfold mB at HE
      obtain ⟨⟨x0, x1, x2, x3, x4, x5, x6, x7, x8⟩, xf, xl⟩ := nineM hb4
      clear hkk hci hcc hct hev hcell hjn m_ hc4 hb4 HEn
      go_upto_region 4 with fail
      rw [← hw4, ← hbm]
      clear hw4 hbm m0 m1 m2 m3 m4 m5 m6 m7 m8 lg
      go_wp2_with fail
      refine HE.out.mono ?_
      rintro e w5 ⟨f5, ee, rfl, hee, hc5⟩
      obtain ⟨z, hz⟩ : ∃ z, z = (encN j n).1 := ⟨_, rfl⟩
      rw [← hz]
      have Hz := Lib.hid hz
      unfold Ev.val
      obtain ⟨w6, hw6⟩ : ∃ y, y = w5.alloc (.cells #[.int .i64 ee.k, .int .i64 ee.n, .string ee.t, .slice ee.na ee.nl ee.nc, .slice ee.ia ee.il ee.ic] 25) := ⟨_, rfl⟩
      obtain ⟨be, hbe⟩ : ∃ y, y = w5.heap.size := ⟨_, rfl⟩
      have hc6 : Chg [] w5 w6 := by rw [hw6]; exact (Chg.refl _ _).alloc _
      have hb6 : w6.heap[be]? = some (.cells #[.int .i64 ee.k, .int .i64 ee.n, .string ee.t, .slice ee.na ee.nl ee.nc, .slice ee.ia ee.il ee.ic] 25 (0, 0)) := by rw [hw6, hbe]; exact heap_at _ _ _ rfl
      have Hc6 := Lib.hid (hc5.trans hc6)
      have Hb6 := Lib.hid hb6
      have He6 := Lib.hid (JN.same hee hc6)
      clear hz hee hc5 hc6 hb6 x0 x1 x2 x3 x4 x5 x6 x7 x8 xf xl
      go_upto_region 5 with fail
      rw [← hw6, ← hbe]
      clear hw6 hbe
      by_cases hz0 : z = 0
      case neg =>
        have hz2 : (z != 0) = true := by simpa using hz0
        have Hno := Lib.hid (show hit j n = false by unfold hit; rw [← Hz.out, decide_eq_false hz0]; rfl)
        clear hz0
        go_wp2_with fail
        exact ⟨⟨n + 1, by omega, by go_num, Lib.hid ⟨fun m hm => by
          by_cases hmn : m < n
          · exact Hs.out.1 m hmn
          · rw [show m = n by omega]; exact Hno.out, Hc4.out.trans Hc6.out⟩⟩, by simp [intOf]; omega⟩
      case pos =>
        subst hz0
        obtain ⟨L, hL, hE5, hEn, hEe, hEl⟩ := encN_shape hlt Hz.out.symm
        have HL := Lib.hid (And.intro hEn (And.intro hEe (And.intro hEl hE5)))
        have hlens := He6.out.lens
        have hnl : ee.nl = L := by rw [hlens.2.2.2.1]; exact hEn
        have hil : ee.il = L := by rw [hlens.2.2.2.2.1]; exact hEe
        have hcap : L ≤ ee.nc ∧ L ≤ ee.ic := by
          obtain ⟨na, nc, ia, ic, hv, _, _, h1, h2, _⟩ := He6.out.shape
          unfold Ev.val at hv
          simp only [Value.agg.injEq, Array.mk.injEq, List.cons.injEq, Value.slice.injEq, and_true, true_and] at hv
          obtain ⟨_, _, _, ⟨_, _, e1⟩, _, _, e2⟩ := hv
          omega
        obtain ⟨ek, en, et, ena, enl, enc, eia, eil, eic⟩ := ee
        simp only at hnl hil hcap
        obtain rfl : enl = L := hnl
        obtain rfl : eil = enl := hil
        obtain ⟨gn, on, hga, hgp, hrd⟩ : ∃ gn on, ena = some ⟨gn, on, none⟩ ∧ gn < w6.heap.size ∧ w6.cell? ⟨gn, on + (eil - 1), none⟩ = some (.string (lastNm n)) := by
          obtain ⟨na, nc, ia, ic, hv, hns, _, _⟩ := He6.out.shape
          unfold Ev.val at hv
          simp only [Value.agg.injEq, Array.mk.injEq, List.cons.injEq, Value.slice.injEq, and_true, true_and] at hv
          obtain ⟨_, _, _, ⟨e1, _, _⟩, _, _, _⟩ := hv
          rw [← e1] at hns
          obtain ⟨gn, on, hga, hp2, hrd⟩ := SlR.at hns (eil - 1) (by have := HL.out.1; omega) ⟨#[]⟩
          rw [List.getD_eq_getElem?_getD, HL.out.2.2.1, Nat.mul_one] at hrd
          exact ⟨gn, on, hga, hp2.2, hrd.1⟩
        subst hga
        have Hhit := Lib.hid (show hit j n = (j.equal Jv.u8 (encN j n).2 || j.equal Jv.u8 (shortN j n)) by unfold hit; rw [← Hz.out]; rfl)
        have HLL := Lib.hid (And.intro hL hcap)
        clear hE5 hEn hEe hEl hlens
        obtain ⟨w7, hw7⟩ : ∃ y, y = w6.alloc (.cells #[.int .i64 ek, .int .i64 en, .string et, .slice (some ⟨gn, on, none⟩) eil enc, .slice eia eil eic] 25) := ⟨_, rfl⟩
        obtain ⟨bs, hbs⟩ : ∃ y, y = w6.heap.size := ⟨_, rfl⟩
        have hc7 : Chg [] w6 w7 := by rw [hw7]; exact (Chg.refl _ _).alloc _
        have hb7 : w7.heap[bs]? = some (.cells #[.int .i64 ek, .int .i64 en, .string et, .slice (some ⟨gn, on, none⟩) eil enc, .slice eia eil eic] 25 (0, 0)) := by rw [hw7, hbs]; exact heap_at _ _ _ rfl
        have Hc7 := Lib.hid hc7
        have Hb7 := Lib.hid hb7
        have Hbs := Lib.hid hbs
        obtain ⟨y0, y1, y2, y3, y4⟩ := box_kept be Hb6.out (Chg.refl [] w6)
        have q9 := (hc7.cell (p := ⟨gn, on + (eil - 1), none⟩) hgp (by simp)).trans hrd
        have ly := lt_of_cell q9
        have hi1 : (1 : Int) ≤ (eil : Int) := by omega
        obtain ⟨la, hla⟩ : ∃ la : Nat, la = eil - 1 := ⟨_, rfl⟩
        have hwr : IntKind.i64.wrap ((eil : Int) - 1) = (la : Int) := by rw [IntWalk.i64_in _ (by omega)]; omega
        have hla1 : (la : Int) < eil := by omega
        have hla0 : (0 : Int) ≤ (la : Int) := by omega
        rw [← hla] at q9
        have Hla := Lib.hid hla
        clear hgp hrd hc7 hb7 hla hL hcap hi1
        go_upto_region 7 with fail
        rw [← hw7, ← hbs]
        clear hw7 hbs y0 y1 y2 y3 y4
        have hce := (Hc7.out.block be (lt_of_obj Hb6.out) (by simp)).trans Hb6.out
        obtain ⟨y0, y1, y2, y3, y4⟩ := box_kept be hce (Chg.refl [] w7)
        have hcm := ((Hc6.out.trans Hc7.out).block bm (lt_of_obj Hb4.out) (by simp)).trans Hb4.out
        obtain ⟨⟨x0, x1, x2, x3, x4, x5, x6, x7, x8⟩, xf, xl⟩ := nineM hcm
        have Hce := Lib.hid hce
        have Hcm := Lib.hid hcm
        clear hce hcm
        have hbq : ((lastNm n).toList == [112, 97, 114, 97, 109, 115]) = decide (lastNm n = pT) := by
          have := beqS (lastNm n) pT
          rwa [show pT.toList = ([112, 97, 114, 97, 109, 115] : List UInt8) by rw [ByteArray.toList_eq]; rfl] at this
        have Hsh : Hid (isShort j n = (decide (lastNm n = pT) && (isNJ (candB j n) && decide (n ≠ 4)))) := Lib.hid rfl
        have HN := Lib.hid (isNull_any ev ⟨Hj4.out.lens.2.2.2.2.2.1, Hj4.out.lens.2.2.2.2.2.2⟩ w7)
        rw [isN_J Hj4.out] at HN
        unfold Ev.val at HN
        generalize lastNm n = ln at q9 hbq Hsh
        generalize decide (ln = pT) = c1 at hbq Hsh
        generalize isNJ (candB j n) = c2 at HN Hsh
        have hk5 : (kk != 5) = decide (n ≠ 4) := by
          rw [Heq.out.1]
          by_cases h4 : n = 4
          · subst h4; rfl
          · rw [decide_eq_true h4]; simp; omega
        generalize decide (n ≠ 4) = c3 at hk5 Hsh
        cases c1
        · skip
          go_upto_region 10 with fail
          clear hla1 hla0 hwr hbq hk5 q9 ly
          have HW : Hid (Chg [] w6 w7) := Lib.hid (Hc7.out)
          have hWj := ((((Hc2.out.trans Hc4.out).trans Hc6.out).trans HW.out).block vb (lt_of_obj Hm1.out) (by simp)).trans Hm1.out
          have hWe := (HW.out.block be (lt_of_obj Hb6.out) (by simp)).trans Hb6.out
          have hWm := ((Hc6.out.trans HW.out).block bm (lt_of_obj Hb4.out) (by simp)).trans Hb4.out
          have hWs := Hb7.out
          have hWr := ((((Hc2.out.trans Hc4.out).trans Hc6.out).trans HW.out).block (vb + 1) (lt_of_obj Hr1.out) (by simp)).trans Hr1.out
          have HjW := Lib.hid (Hj.out w7 ((((Hc1.out.trans Hc2.out).trans Hc4.out).trans Hc6.out).trans HW.out))
          have HeW : Hid (JN w4.heap.size f5 w7 (Ev.val ⟨ek, en, et, some ⟨gn, on, none⟩, eil, enc, eia, eil, eic⟩) (encN j n).2) := Lib.hid (JN.same He6.out HW.out)
          have HsW : Hid (JN w4.heap.size f5 w7 (Ev.val ⟨ek, en, et, (some ⟨gn, on, none⟩), eil, enc, eia, eil, eic⟩) (shortN j n)) := Lib.hid (by have hsh : shortN j n = (encN j n).2 := if_neg (by rw [Hsh.out]; simp); rw [hsh]; exact HeW.out)
          have HTW := Lib.hid (HT.out.new ((((Hc1.out.trans Hc2.out).trans Hc4.out).trans Hc6.out).trans HW.out))
          have HpW := Lib.hid (fun g (hg : p g) => Nat.lt_of_lt_of_le (Hp.out g hg) ((((Hc1.out.trans Hc2.out).trans Hc4.out).trans Hc6.out).trans HW.out).size)
          have HB := Lib.hid (And.intro hWj (And.intro hWe (And.intro hWm (And.intro hWs hWr))))
          obtain ⟨b0, b1, b2, b3, b4⟩ := box_kept vb hWj (Chg.refl [] w7)
          obtain ⟨d0, d1, d2, d3, d4⟩ := box_kept be hWe (Chg.refl [] w7)
          have Heq1 := Lib.hid (Equal_any p _ f f5 w7 j (encN j n).2 _ _ HjW.out HeW.out HpW.out (fun g hg => hg.2) HTW.out)
          unfold Ev.val at Heq1
          clear hWj hWe hWm hWs hWr
          obtain ⟨q1, hq1⟩ : ∃ q, q = j.equal Jv.u8 (encN j n).2 := ⟨_, rfl⟩
          rw [← hq1] at Heq1 Hhit
          clear hq1
          go_wp2_with fail
          refine Heq1.out.mono ?_
          rintro e wa ⟨rfl, hca⟩
          have Hca := Lib.hid hca
          clear hca b0 b1 b2 b3 b4 d0 d1 d2 d3 d4
          cases q1
          · skip
            have hsa := (Hca.out.block bs (lt_of_obj HB.out.2.2.2.1) (by simp)).trans HB.out.2.2.2.1
            have hja := (Hca.out.block vb (lt_of_obj HB.out.1) (by simp)).trans HB.out.1
            obtain ⟨b0, b1, b2, b3, b4⟩ := box_kept vb hja (Chg.refl [] wa)
            obtain ⟨d0, d1, d2, d3, d4⟩ := box_kept bs hsa (Chg.refl [] wa)
            have Heq2 := Lib.hid (Equal_any p _ f f5 wa j (shortN j n) _ _ (HjW.out.chg Hca.out) (JN.same HsW.out Hca.out) (fun g hg => Nat.lt_of_lt_of_le (HpW.out g hg) Hca.out.size) (fun g hg => hg.2) (HTW.out.new Hca.out))
            unfold Ev.val at Heq2
            obtain ⟨q2, hq2⟩ : ∃ q, q = j.equal Jv.u8 (shortN j n) := ⟨_, rfl⟩
            rw [← hq2] at Heq2 Hhit
            clear hq2 hsa hja
            go_wp2_with fail
            refine Heq2.out.mono ?_
            rintro e wb ⟨rfl, hcb⟩
            have Hcb := Lib.hid hcb
            clear hcb b0 b1 b2 b3 b4 d0 d1 d2 d3 d4
            cases q2
            · skip
              go_wp2_with fail
              exact ⟨⟨n + 1, by omega, by go_num, Lib.hid ⟨fun m hm => by
                by_cases hmn : m < n
                · exact Hs.out.1 m hmn
                · rw [show m = n by omega]; exact Hhit.out, (((Hc4.out.trans Hc6.out).trans HW.out).trans Hca.out).trans Hcb.out⟩⟩, by simp [intOf]; omega⟩
            · skip
              obtain ⟨⟨x0, x1, x2, x3, x4, x5, x6, x7, x8⟩, xf, xl⟩ := nineM (((Hca.out.trans Hcb.out).block bm (lt_of_obj HB.out.2.2.1) (by simp)).trans HB.out.2.2.1)
              obtain ⟨⟨r0, r1, r2, r3, r4, r5, r6, r7, r8⟩, rf, rl⟩ := nineM (((Hca.out.trans Hcb.out).block (vb + 1) (lt_of_obj HB.out.2.2.2.2) (by simp)).trans HB.out.2.2.2.2)
              go_wp2_with fail
              refine bodyPost_ret (v := .tuple #[.agg #[.int .i64 kk, .int .i64 ci, .int .i64 cc, .string ct, .int .i64 ev.k, .int .i64 ev.n, .string ev.t, .slice ev.na ev.nl ev.nc, .slice ev.ia ev.il ev.ic], .int .i64 0]) (by simp [results, Tryd.results10, go_sem, r0, r1, r2, r3, r4, r5, r6, r7, r8]) rfl ?_
              have hst := stM_chg wb (vb + 1) kk ci cc ct ev
              have hcE := (((((Hc1.out.trans Hc2.out).trans Hc4.out).trans Hc6.out).trans HW.out).trans (Hca.out.trans Hcb.out))
              have hvl := (show JV _ f wb ev.val (candB j n) from JN.same Hj4.out ((Hc6.out.trans HW.out).trans (Hca.out.trans Hcb.out)))
              have hlt1 := lt_of_obj Hr1.out
              have hjE : JN w.heap.size f (stM wb (vb + 1) kk ci cc ct ev) ev.val (candB j n) := (hvl.kept hst.toP fun x hx hm => by have := List.mem_singleton.1 hm; have := hx.1; omega).imp fun x hx => ⟨Nat.le_trans Hc1.out.size hx.1, Nat.lt_of_lt_of_le hx.2 hst.size⟩
              have hend : DePost f j w (.returned (.tuple #[mB kk ci cc ct ev, .int .i64 0])) (stM wb (vb + 1) kk ci cc ct ev) := by
                refine ⟨Or.inl ⟨n, hlt, by rw [Hhit.out]; simp, Hs.out.1, ev, ?_, hjE⟩, hcE.comp hst fun x hx => Or.inr (by have := List.mem_singleton.1 hx; have := Hvb.out; omega)⟩
                rw [Heq.out.1, Heq.out.2.1, Heq.out.2.2.1, Heq.out.2.2.2.1]
              exact hend
          · skip
            obtain ⟨⟨x0, x1, x2, x3, x4, x5, x6, x7, x8⟩, xf, xl⟩ := nineM ((Hca.out.block bm (lt_of_obj HB.out.2.2.1) (by simp)).trans HB.out.2.2.1)
            obtain ⟨⟨r0, r1, r2, r3, r4, r5, r6, r7, r8⟩, rf, rl⟩ := nineM ((Hca.out.block (vb + 1) (lt_of_obj HB.out.2.2.2.2) (by simp)).trans HB.out.2.2.2.2)
            go_wp2_with fail
            refine bodyPost_ret (v := .tuple #[.agg #[.int .i64 kk, .int .i64 ci, .int .i64 cc, .string ct, .int .i64 ev.k, .int .i64 ev.n, .string ev.t, .slice ev.na ev.nl ev.nc, .slice ev.ia ev.il ev.ic], .int .i64 0]) (by simp [results, Tryd.results10, go_sem, r0, r1, r2, r3, r4, r5, r6, r7, r8]) rfl ?_
            have hst := stM_chg wa (vb + 1) kk ci cc ct ev
            have hcE := (((((Hc1.out.trans Hc2.out).trans Hc4.out).trans Hc6.out).trans HW.out).trans Hca.out)
            have hvl := (show JV _ f wa ev.val (candB j n) from JN.same Hj4.out ((Hc6.out.trans HW.out).trans Hca.out))
            have hlt1 := lt_of_obj Hr1.out
            have hjE : JN w.heap.size f (stM wa (vb + 1) kk ci cc ct ev) ev.val (candB j n) := (hvl.kept hst.toP fun x hx hm => by have := List.mem_singleton.1 hm; have := hx.1; omega).imp fun x hx => ⟨Nat.le_trans Hc1.out.size hx.1, Nat.lt_of_lt_of_le hx.2 hst.size⟩
            have hend : DePost f j w (.returned (.tuple #[mB kk ci cc ct ev, .int .i64 0])) (stM wa (vb + 1) kk ci cc ct ev) := by
              refine ⟨Or.inl ⟨n, hlt, by rw [Hhit.out]; simp, Hs.out.1, ev, ?_, hjE⟩, hcE.comp hst fun x hx => Or.inr (by have := List.mem_singleton.1 hx; have := Hvb.out; omega)⟩
              rw [Heq.out.1, Heq.out.2.1, Heq.out.2.2.1, Heq.out.2.2.2.1]
            exact hend
        cases c2
        · skip
          go_wp2_with fail
          refine HN.out.mono ?_
          rintro e w8 ⟨rfl, hc8⟩
          have Hc8 := Lib.hid hc8
          have y0 := (hc8.cell (lt_of_cell y0) (by simp)).trans y0
          have y1 := (hc8.cell (lt_of_cell y1) (by simp)).trans y1
          have y2 := (hc8.cell (lt_of_cell y2) (by simp)).trans y2
          have y3 := (hc8.cell (lt_of_cell y3) (by simp)).trans y3
          have y4 := (hc8.cell (lt_of_cell y4) (by simp)).trans y4
          have x0 := (hc8.cell (lt_of_cell x0) (by simp)).trans x0
          clear hc8
          go_upto_region 10 with fail
          clear hla1 hla0 hwr hbq hk5 q9 ly
          have HW : Hid (Chg [] w6 w8) := Lib.hid (Hc7.out.trans Hc8.out)
          have hWj := ((((Hc2.out.trans Hc4.out).trans Hc6.out).trans HW.out).block vb (lt_of_obj Hm1.out) (by simp)).trans Hm1.out
          have hWe := (HW.out.block be (lt_of_obj Hb6.out) (by simp)).trans Hb6.out
          have hWm := ((Hc6.out.trans HW.out).block bm (lt_of_obj Hb4.out) (by simp)).trans Hb4.out
          have hWs := ((Hc8.out.block bs (lt_of_obj Hb7.out) (by simp)).trans Hb7.out)
          have hWr := ((((Hc2.out.trans Hc4.out).trans Hc6.out).trans HW.out).block (vb + 1) (lt_of_obj Hr1.out) (by simp)).trans Hr1.out
          have HjW := Lib.hid (Hj.out w8 ((((Hc1.out.trans Hc2.out).trans Hc4.out).trans Hc6.out).trans HW.out))
          have HeW : Hid (JN w4.heap.size f5 w8 (Ev.val ⟨ek, en, et, some ⟨gn, on, none⟩, eil, enc, eia, eil, eic⟩) (encN j n).2) := Lib.hid (JN.same He6.out HW.out)
          have HsW : Hid (JN w4.heap.size f5 w8 (Ev.val ⟨ek, en, et, (some ⟨gn, on, none⟩), eil, enc, eia, eil, eic⟩) (shortN j n)) := Lib.hid (by have hsh : shortN j n = (encN j n).2 := if_neg (by rw [Hsh.out]; simp); rw [hsh]; exact HeW.out)
          have HTW := Lib.hid (HT.out.new ((((Hc1.out.trans Hc2.out).trans Hc4.out).trans Hc6.out).trans HW.out))
          have HpW := Lib.hid (fun g (hg : p g) => Nat.lt_of_lt_of_le (Hp.out g hg) ((((Hc1.out.trans Hc2.out).trans Hc4.out).trans Hc6.out).trans HW.out).size)
          have HB := Lib.hid (And.intro hWj (And.intro hWe (And.intro hWm (And.intro hWs hWr))))
          obtain ⟨b0, b1, b2, b3, b4⟩ := box_kept vb hWj (Chg.refl [] w8)
          obtain ⟨d0, d1, d2, d3, d4⟩ := box_kept be hWe (Chg.refl [] w8)
          have Heq1 := Lib.hid (Equal_any p _ f f5 w8 j (encN j n).2 _ _ HjW.out HeW.out HpW.out (fun g hg => hg.2) HTW.out)
          unfold Ev.val at Heq1
          clear hWj hWe hWm hWs hWr
          obtain ⟨q1, hq1⟩ : ∃ q, q = j.equal Jv.u8 (encN j n).2 := ⟨_, rfl⟩
          rw [← hq1] at Heq1 Hhit
          clear hq1
          go_wp2_with fail
          refine Heq1.out.mono ?_
          rintro e wa ⟨rfl, hca⟩
          have Hca := Lib.hid hca
          clear hca b0 b1 b2 b3 b4 d0 d1 d2 d3 d4
          cases q1
          · skip
            have hsa := (Hca.out.block bs (lt_of_obj HB.out.2.2.2.1) (by simp)).trans HB.out.2.2.2.1
            have hja := (Hca.out.block vb (lt_of_obj HB.out.1) (by simp)).trans HB.out.1
            obtain ⟨b0, b1, b2, b3, b4⟩ := box_kept vb hja (Chg.refl [] wa)
            obtain ⟨d0, d1, d2, d3, d4⟩ := box_kept bs hsa (Chg.refl [] wa)
            have Heq2 := Lib.hid (Equal_any p _ f f5 wa j (shortN j n) _ _ (HjW.out.chg Hca.out) (JN.same HsW.out Hca.out) (fun g hg => Nat.lt_of_lt_of_le (HpW.out g hg) Hca.out.size) (fun g hg => hg.2) (HTW.out.new Hca.out))
            unfold Ev.val at Heq2
            obtain ⟨q2, hq2⟩ : ∃ q, q = j.equal Jv.u8 (shortN j n) := ⟨_, rfl⟩
            rw [← hq2] at Heq2 Hhit
            clear hq2 hsa hja
            go_wp2_with fail
            refine Heq2.out.mono ?_
            rintro e wb ⟨rfl, hcb⟩
            have Hcb := Lib.hid hcb
            clear hcb b0 b1 b2 b3 b4 d0 d1 d2 d3 d4
            cases q2
            · skip
              go_wp2_with fail
              exact ⟨⟨n + 1, by omega, by go_num, Lib.hid ⟨fun m hm => by
                by_cases hmn : m < n
                · exact Hs.out.1 m hmn
                · rw [show m = n by omega]; exact Hhit.out, (((Hc4.out.trans Hc6.out).trans HW.out).trans Hca.out).trans Hcb.out⟩⟩, by simp [intOf]; omega⟩
            · skip
              obtain ⟨⟨x0, x1, x2, x3, x4, x5, x6, x7, x8⟩, xf, xl⟩ := nineM (((Hca.out.trans Hcb.out).block bm (lt_of_obj HB.out.2.2.1) (by simp)).trans HB.out.2.2.1)
              obtain ⟨⟨r0, r1, r2, r3, r4, r5, r6, r7, r8⟩, rf, rl⟩ := nineM (((Hca.out.trans Hcb.out).block (vb + 1) (lt_of_obj HB.out.2.2.2.2) (by simp)).trans HB.out.2.2.2.2)
              go_wp2_with fail
              refine bodyPost_ret (v := .tuple #[.agg #[.int .i64 kk, .int .i64 ci, .int .i64 cc, .string ct, .int .i64 ev.k, .int .i64 ev.n, .string ev.t, .slice ev.na ev.nl ev.nc, .slice ev.ia ev.il ev.ic], .int .i64 0]) (by simp [results, Tryd.results10, go_sem, r0, r1, r2, r3, r4, r5, r6, r7, r8]) rfl ?_
              have hst := stM_chg wb (vb + 1) kk ci cc ct ev
              have hcE := (((((Hc1.out.trans Hc2.out).trans Hc4.out).trans Hc6.out).trans HW.out).trans (Hca.out.trans Hcb.out))
              have hvl := (show JV _ f wb ev.val (candB j n) from JN.same Hj4.out ((Hc6.out.trans HW.out).trans (Hca.out.trans Hcb.out)))
              have hlt1 := lt_of_obj Hr1.out
              have hjE : JN w.heap.size f (stM wb (vb + 1) kk ci cc ct ev) ev.val (candB j n) := (hvl.kept hst.toP fun x hx hm => by have := List.mem_singleton.1 hm; have := hx.1; omega).imp fun x hx => ⟨Nat.le_trans Hc1.out.size hx.1, Nat.lt_of_lt_of_le hx.2 hst.size⟩
              have hend : DePost f j w (.returned (.tuple #[mB kk ci cc ct ev, .int .i64 0])) (stM wb (vb + 1) kk ci cc ct ev) := by
                refine ⟨Or.inl ⟨n, hlt, by rw [Hhit.out]; simp, Hs.out.1, ev, ?_, hjE⟩, hcE.comp hst fun x hx => Or.inr (by have := List.mem_singleton.1 hx; have := Hvb.out; omega)⟩
                rw [Heq.out.1, Heq.out.2.1, Heq.out.2.2.1, Heq.out.2.2.2.1]
              exact hend
          · skip
            obtain ⟨⟨x0, x1, x2, x3, x4, x5, x6, x7, x8⟩, xf, xl⟩ := nineM ((Hca.out.block bm (lt_of_obj HB.out.2.2.1) (by simp)).trans HB.out.2.2.1)
            obtain ⟨⟨r0, r1, r2, r3, r4, r5, r6, r7, r8⟩, rf, rl⟩ := nineM ((Hca.out.block (vb + 1) (lt_of_obj HB.out.2.2.2.2) (by simp)).trans HB.out.2.2.2.2)
            go_wp2_with fail
            refine bodyPost_ret (v := .tuple #[.agg #[.int .i64 kk, .int .i64 ci, .int .i64 cc, .string ct, .int .i64 ev.k, .int .i64 ev.n, .string ev.t, .slice ev.na ev.nl ev.nc, .slice ev.ia ev.il ev.ic], .int .i64 0]) (by simp [results, Tryd.results10, go_sem, r0, r1, r2, r3, r4, r5, r6, r7, r8]) rfl ?_
            have hst := stM_chg wa (vb + 1) kk ci cc ct ev
            have hcE := (((((Hc1.out.trans Hc2.out).trans Hc4.out).trans Hc6.out).trans HW.out).trans Hca.out)
            have hvl := (show JV _ f wa ev.val (candB j n) from JN.same Hj4.out ((Hc6.out.trans HW.out).trans Hca.out))
            have hlt1 := lt_of_obj Hr1.out
            have hjE : JN w.heap.size f (stM wa (vb + 1) kk ci cc ct ev) ev.val (candB j n) := (hvl.kept hst.toP fun x hx hm => by have := List.mem_singleton.1 hm; have := hx.1; omega).imp fun x hx => ⟨Nat.le_trans Hc1.out.size hx.1, Nat.lt_of_lt_of_le hx.2 hst.size⟩
            have hend : DePost f j w (.returned (.tuple #[mB kk ci cc ct ev, .int .i64 0])) (stM wa (vb + 1) kk ci cc ct ev) := by
              refine ⟨Or.inl ⟨n, hlt, by rw [Hhit.out]; simp, Hs.out.1, ev, ?_, hjE⟩, hcE.comp hst fun x hx => Or.inr (by have := List.mem_singleton.1 hx; have := Hvb.out; omega)⟩
              rw [Heq.out.1, Heq.out.2.1, Heq.out.2.2.1, Heq.out.2.2.2.1]
            exact hend
        cases c3
        · skip
          go_wp2_with fail
          refine HN.out.mono ?_
          rintro e w8 ⟨rfl, hc8⟩
          have Hc8 := Lib.hid hc8
          have y0 := (hc8.cell (lt_of_cell y0) (by simp)).trans y0
          have y1 := (hc8.cell (lt_of_cell y1) (by simp)).trans y1
          have y2 := (hc8.cell (lt_of_cell y2) (by simp)).trans y2
          have y3 := (hc8.cell (lt_of_cell y3) (by simp)).trans y3
          have y4 := (hc8.cell (lt_of_cell y4) (by simp)).trans y4
          have x0 := (hc8.cell (lt_of_cell x0) (by simp)).trans x0
          clear hc8
          go_upto_region 10 with fail
          clear hla1 hla0 hwr hbq hk5 q9 ly
          have HW : Hid (Chg [] w6 w8) := Lib.hid (Hc7.out.trans Hc8.out)
          have hWj := ((((Hc2.out.trans Hc4.out).trans Hc6.out).trans HW.out).block vb (lt_of_obj Hm1.out) (by simp)).trans Hm1.out
          have hWe := (HW.out.block be (lt_of_obj Hb6.out) (by simp)).trans Hb6.out
          have hWm := ((Hc6.out.trans HW.out).block bm (lt_of_obj Hb4.out) (by simp)).trans Hb4.out
          have hWs := ((Hc8.out.block bs (lt_of_obj Hb7.out) (by simp)).trans Hb7.out)
          have hWr := ((((Hc2.out.trans Hc4.out).trans Hc6.out).trans HW.out).block (vb + 1) (lt_of_obj Hr1.out) (by simp)).trans Hr1.out
          have HjW := Lib.hid (Hj.out w8 ((((Hc1.out.trans Hc2.out).trans Hc4.out).trans Hc6.out).trans HW.out))
          have HeW : Hid (JN w4.heap.size f5 w8 (Ev.val ⟨ek, en, et, some ⟨gn, on, none⟩, eil, enc, eia, eil, eic⟩) (encN j n).2) := Lib.hid (JN.same He6.out HW.out)
          have HsW : Hid (JN w4.heap.size f5 w8 (Ev.val ⟨ek, en, et, (some ⟨gn, on, none⟩), eil, enc, eia, eil, eic⟩) (shortN j n)) := Lib.hid (by have hsh : shortN j n = (encN j n).2 := if_neg (by rw [Hsh.out]; simp); rw [hsh]; exact HeW.out)
          have HTW := Lib.hid (HT.out.new ((((Hc1.out.trans Hc2.out).trans Hc4.out).trans Hc6.out).trans HW.out))
          have HpW := Lib.hid (fun g (hg : p g) => Nat.lt_of_lt_of_le (Hp.out g hg) ((((Hc1.out.trans Hc2.out).trans Hc4.out).trans Hc6.out).trans HW.out).size)
          have HB := Lib.hid (And.intro hWj (And.intro hWe (And.intro hWm (And.intro hWs hWr))))
          obtain ⟨b0, b1, b2, b3, b4⟩ := box_kept vb hWj (Chg.refl [] w8)
          obtain ⟨d0, d1, d2, d3, d4⟩ := box_kept be hWe (Chg.refl [] w8)
          have Heq1 := Lib.hid (Equal_any p _ f f5 w8 j (encN j n).2 _ _ HjW.out HeW.out HpW.out (fun g hg => hg.2) HTW.out)
          unfold Ev.val at Heq1
          clear hWj hWe hWm hWs hWr
          obtain ⟨q1, hq1⟩ : ∃ q, q = j.equal Jv.u8 (encN j n).2 := ⟨_, rfl⟩
          rw [← hq1] at Heq1 Hhit
          clear hq1
          go_wp2_with fail
          refine Heq1.out.mono ?_
          rintro e wa ⟨rfl, hca⟩
          have Hca := Lib.hid hca
          clear hca b0 b1 b2 b3 b4 d0 d1 d2 d3 d4
          cases q1
          · skip
            have hsa := (Hca.out.block bs (lt_of_obj HB.out.2.2.2.1) (by simp)).trans HB.out.2.2.2.1
            have hja := (Hca.out.block vb (lt_of_obj HB.out.1) (by simp)).trans HB.out.1
            obtain ⟨b0, b1, b2, b3, b4⟩ := box_kept vb hja (Chg.refl [] wa)
            obtain ⟨d0, d1, d2, d3, d4⟩ := box_kept bs hsa (Chg.refl [] wa)
            have Heq2 := Lib.hid (Equal_any p _ f f5 wa j (shortN j n) _ _ (HjW.out.chg Hca.out) (JN.same HsW.out Hca.out) (fun g hg => Nat.lt_of_lt_of_le (HpW.out g hg) Hca.out.size) (fun g hg => hg.2) (HTW.out.new Hca.out))
            unfold Ev.val at Heq2
            obtain ⟨q2, hq2⟩ : ∃ q, q = j.equal Jv.u8 (shortN j n) := ⟨_, rfl⟩
            rw [← hq2] at Heq2 Hhit
            clear hq2 hsa hja
            go_wp2_with fail
            refine Heq2.out.mono ?_
            rintro e wb ⟨rfl, hcb⟩
            have Hcb := Lib.hid hcb
            clear hcb b0 b1 b2 b3 b4 d0 d1 d2 d3 d4
            cases q2
            · skip
              go_wp2_with fail
              exact ⟨⟨n + 1, by omega, by go_num, Lib.hid ⟨fun m hm => by
                by_cases hmn : m < n
                · exact Hs.out.1 m hmn
                · rw [show m = n by omega]; exact Hhit.out, (((Hc4.out.trans Hc6.out).trans HW.out).trans Hca.out).trans Hcb.out⟩⟩, by simp [intOf]; omega⟩
            · skip
              obtain ⟨⟨x0, x1, x2, x3, x4, x5, x6, x7, x8⟩, xf, xl⟩ := nineM (((Hca.out.trans Hcb.out).block bm (lt_of_obj HB.out.2.2.1) (by simp)).trans HB.out.2.2.1)
              obtain ⟨⟨r0, r1, r2, r3, r4, r5, r6, r7, r8⟩, rf, rl⟩ := nineM (((Hca.out.trans Hcb.out).block (vb + 1) (lt_of_obj HB.out.2.2.2.2) (by simp)).trans HB.out.2.2.2.2)
              go_wp2_with fail
              refine bodyPost_ret (v := .tuple #[.agg #[.int .i64 kk, .int .i64 ci, .int .i64 cc, .string ct, .int .i64 ev.k, .int .i64 ev.n, .string ev.t, .slice ev.na ev.nl ev.nc, .slice ev.ia ev.il ev.ic], .int .i64 0]) (by simp [results, Tryd.results10, go_sem, r0, r1, r2, r3, r4, r5, r6, r7, r8]) rfl ?_
              have hst := stM_chg wb (vb + 1) kk ci cc ct ev
              have hcE := (((((Hc1.out.trans Hc2.out).trans Hc4.out).trans Hc6.out).trans HW.out).trans (Hca.out.trans Hcb.out))
              have hvl := (show JV _ f wb ev.val (candB j n) from JN.same Hj4.out ((Hc6.out.trans HW.out).trans (Hca.out.trans Hcb.out)))
              have hlt1 := lt_of_obj Hr1.out
              have hjE : JN w.heap.size f (stM wb (vb + 1) kk ci cc ct ev) ev.val (candB j n) := (hvl.kept hst.toP fun x hx hm => by have := List.mem_singleton.1 hm; have := hx.1; omega).imp fun x hx => ⟨Nat.le_trans Hc1.out.size hx.1, Nat.lt_of_lt_of_le hx.2 hst.size⟩
              have hend : DePost f j w (.returned (.tuple #[mB kk ci cc ct ev, .int .i64 0])) (stM wb (vb + 1) kk ci cc ct ev) := by
                refine ⟨Or.inl ⟨n, hlt, by rw [Hhit.out]; simp, Hs.out.1, ev, ?_, hjE⟩, hcE.comp hst fun x hx => Or.inr (by have := List.mem_singleton.1 hx; have := Hvb.out; omega)⟩
                rw [Heq.out.1, Heq.out.2.1, Heq.out.2.2.1, Heq.out.2.2.2.1]
              exact hend
          · skip
            obtain ⟨⟨x0, x1, x2, x3, x4, x5, x6, x7, x8⟩, xf, xl⟩ := nineM ((Hca.out.block bm (lt_of_obj HB.out.2.2.1) (by simp)).trans HB.out.2.2.1)
            obtain ⟨⟨r0, r1, r2, r3, r4, r5, r6, r7, r8⟩, rf, rl⟩ := nineM ((Hca.out.block (vb + 1) (lt_of_obj HB.out.2.2.2.2) (by simp)).trans HB.out.2.2.2.2)
            go_wp2_with fail
            refine bodyPost_ret (v := .tuple #[.agg #[.int .i64 kk, .int .i64 ci, .int .i64 cc, .string ct, .int .i64 ev.k, .int .i64 ev.n, .string ev.t, .slice ev.na ev.nl ev.nc, .slice ev.ia ev.il ev.ic], .int .i64 0]) (by simp [results, Tryd.results10, go_sem, r0, r1, r2, r3, r4, r5, r6, r7, r8]) rfl ?_
            have hst := stM_chg wa (vb + 1) kk ci cc ct ev
            have hcE := (((((Hc1.out.trans Hc2.out).trans Hc4.out).trans Hc6.out).trans HW.out).trans Hca.out)
            have hvl := (show JV _ f wa ev.val (candB j n) from JN.same Hj4.out ((Hc6.out.trans HW.out).trans Hca.out))
            have hlt1 := lt_of_obj Hr1.out
            have hjE : JN w.heap.size f (stM wa (vb + 1) kk ci cc ct ev) ev.val (candB j n) := (hvl.kept hst.toP fun x hx hm => by have := List.mem_singleton.1 hm; have := hx.1; omega).imp fun x hx => ⟨Nat.le_trans Hc1.out.size hx.1, Nat.lt_of_lt_of_le hx.2 hst.size⟩
            have hend : DePost f j w (.returned (.tuple #[mB kk ci cc ct ev, .int .i64 0])) (stM wa (vb + 1) kk ci cc ct ev) := by
              refine ⟨Or.inl ⟨n, hlt, by rw [Hhit.out]; simp, Hs.out.1, ev, ?_, hjE⟩, hcE.comp hst fun x hx => Or.inr (by have := List.mem_singleton.1 hx; have := Hvb.out; omega)⟩
              rw [Heq.out.1, Heq.out.2.1, Heq.out.2.2.1, Heq.out.2.2.2.1]
            exact hend
        · skip
          go_wp2_with fail
          refine HN.out.mono ?_
          rintro e w8 ⟨rfl, hc8⟩
          have Hc8 := Lib.hid hc8
          have y0 := (hc8.cell (lt_of_cell y0) (by simp)).trans y0
          have y1 := (hc8.cell (lt_of_cell y1) (by simp)).trans y1
          have y2 := (hc8.cell (lt_of_cell y2) (by simp)).trans y2
          have y3 := (hc8.cell (lt_of_cell y3) (by simp)).trans y3
          have y4 := (hc8.cell (lt_of_cell y4) (by simp)).trans y4
          have x0 := (hc8.cell (lt_of_cell x0) (by simp)).trans x0
          clear hc8
          have ys0 := y3
          have hcut1 : (la : Int) ≤ (enc : Int) := by have := HLL.out; omega
          have hcut2 : (la : Int) ≤ (eic : Int) := by have := HLL.out; omega
          have hbsx := ((Hc8.out).block bs (lt_of_obj Hb7.out) (by simp)).trans Hb7.out
          have HO := Lib.hid (fun W => object_any (some ⟨gn, on, none⟩) eia la enc la eic W)
          have HbX := Lib.hid hbsx
          clear hbsx x1 x2 x3 x4 x5 x6 x7 x8 xf xl
          go_upto_region 9 with fail
          refine wp_region_readsQ 8 (by kernel_rfl) (by kernel_rfl) ?_
          intro W0 hW0
          have Hd0 : Hid (Chg [] w8 W0) := Lib.hid (by rw [hW0]; exact (Chg.refl _ _).drew)
          have y3 := (Hd0.out.cell (lt_of_cell y3) (by simp)).trans y3
          have y4 := (Hd0.out.cell (lt_of_cell y4) (by simp)).trans y4
          clear hW0
          simp only [List.take_succ_cons, List.take_zero, List.drop_succ_cons, List.drop_zero]
          repeat go_big_quiet_step (fail)
          refine wpQuiet_nil ?_
          go_wp2_with fail
          refine (HO.out W0).mono ?_
          rintro e wo ⟨rfl, hco⟩
          have hbo := ((Hd0.out.trans hco).block bs (lt_of_obj HbX.out) (by simp)).trans HbX.out
          obtain ⟨t0, t1, t2, t3, t4⟩ := box_kept bs hbo (Chg.refl [] wo)
          have tf := fun i => frozen_of_heap (i := i) hbo
          have tl := lt_of_cell t0
          obtain ⟨w9, hw9⟩ : ∃ y, y = (((((wo.setCell ⟨bs, 0, none⟩ (.int .i64 5)).setCell ⟨bs, 1, none⟩ (.int .i64 0)).setCell ⟨bs, 2, none⟩ (.string ⟨#[]⟩)).setCell ⟨bs, 3, none⟩ (.slice (some ⟨gn, on, none⟩) la enc)).setCell ⟨bs, 4, none⟩ (.slice eia la eic)) := ⟨_, rfl⟩
          have hst9 : Chg [bs] wo w9 := by rw [hw9]; exact st5_chg wo bs 0 ⟨5, 0, ⟨#[]⟩, some ⟨gn, on, none⟩, la, enc, eia, la, eic⟩
          have hb9 : w9.heap[bs]? = some (.cells #[.int .i64 5, .int .i64 0, .string ⟨#[]⟩, .slice (some ⟨gn, on, none⟩) la enc, .slice eia la eic] 25 (0, 0)) := by rw [hw9]; exact st5_heap hbo ⟨5, 0, ⟨#[]⟩, some ⟨gn, on, none⟩, la, enc, eia, la, eic⟩
          have HcS : Hid (Chg [] w6 w9) := Lib.hid ((((Hc7.out.trans Hc8.out).trans Hd0.out).trans hco).comp hst9 fun x hx => Or.inr (by have := List.mem_singleton.1 hx; have := Hbs.out; omega))
          have HbS := Lib.hid hb9
          have HsW : Hid (JN w4.heap.size f5 w9 (Ev.val ⟨5, 0, ⟨#[]⟩, some ⟨gn, on, none⟩, la, enc, eia, la, eic⟩) (shortN j n)) := Lib.hid (by
            have hsh : shortN j n = shortJ (encN j n).2 := if_pos (by rw [Hsh.out]; rfl)
            have hv9 := JN.same He6.out HcS.out
            obtain ⟨na, nc, ia, ic, hv, hns, hes, _, _, _⟩ := hv9.shape
            unfold Ev.val at hv
            simp only [Value.agg.injEq, Array.mk.injEq, List.cons.injEq, Value.slice.injEq, and_true, true_and] at hv
            obtain ⟨_, _, _, ⟨e1, e2, e3⟩, e4, e5, e6⟩ := hv
            rw [← e1, ← e3, ← e2] at hns
            rw [← e4, ← e6, ← e5] at hes
            have hla := Hla.out
            rw [hsh]
            unfold shortJ
            rw [HL.out.2.1, ← hla]
            have hlle : la ≤ eil := by omega
            exact JN.mk (Jv.SlR.take (n := eil) hns hlle) (Jv.SlR.take (n := eil) hes hlle) (show (ByteArray.mk #[]).size ≤ maxLen by decide))
          clear hco hbo hst9 hb9 y0 y1 y2 y3 y4 x0
          go_upto_region 10 with fail
          rw [← hw9]
          clear hw9 t0 t1 t2 t3 t4 tf tl
          clear hla1 hla0 hwr hbq hk5 q9 ly
          have HW : Hid (Chg [] w6 w9) := Lib.hid (HcS.out)
          have hWj := ((((Hc2.out.trans Hc4.out).trans Hc6.out).trans HW.out).block vb (lt_of_obj Hm1.out) (by simp)).trans Hm1.out
          have hWe := (HW.out.block be (lt_of_obj Hb6.out) (by simp)).trans Hb6.out
          have hWm := ((Hc6.out.trans HW.out).block bm (lt_of_obj Hb4.out) (by simp)).trans Hb4.out
          have hWs := HbS.out
          have hWr := ((((Hc2.out.trans Hc4.out).trans Hc6.out).trans HW.out).block (vb + 1) (lt_of_obj Hr1.out) (by simp)).trans Hr1.out
          have HjW := Lib.hid (Hj.out w9 ((((Hc1.out.trans Hc2.out).trans Hc4.out).trans Hc6.out).trans HW.out))
          have HeW : Hid (JN w4.heap.size f5 w9 (Ev.val ⟨ek, en, et, some ⟨gn, on, none⟩, eil, enc, eia, eil, eic⟩) (encN j n).2) := Lib.hid (JN.same He6.out HW.out)
          have HTW := Lib.hid (HT.out.new ((((Hc1.out.trans Hc2.out).trans Hc4.out).trans Hc6.out).trans HW.out))
          have HpW := Lib.hid (fun g (hg : p g) => Nat.lt_of_lt_of_le (Hp.out g hg) ((((Hc1.out.trans Hc2.out).trans Hc4.out).trans Hc6.out).trans HW.out).size)
          have HB := Lib.hid (And.intro hWj (And.intro hWe (And.intro hWm (And.intro hWs hWr))))
          obtain ⟨b0, b1, b2, b3, b4⟩ := box_kept vb hWj (Chg.refl [] w9)
          obtain ⟨d0, d1, d2, d3, d4⟩ := box_kept be hWe (Chg.refl [] w9)
          have Heq1 := Lib.hid (Equal_any p _ f f5 w9 j (encN j n).2 _ _ HjW.out HeW.out HpW.out (fun g hg => hg.2) HTW.out)
          unfold Ev.val at Heq1
          clear hWj hWe hWm hWs hWr
          obtain ⟨q1, hq1⟩ : ∃ q, q = j.equal Jv.u8 (encN j n).2 := ⟨_, rfl⟩
          rw [← hq1] at Heq1 Hhit
          clear hq1
          go_wp2_with fail
          refine Heq1.out.mono ?_
          rintro e wa ⟨rfl, hca⟩
          have Hca := Lib.hid hca
          clear hca b0 b1 b2 b3 b4 d0 d1 d2 d3 d4
          cases q1
          · skip
            have hsa := (Hca.out.block bs (lt_of_obj HB.out.2.2.2.1) (by simp)).trans HB.out.2.2.2.1
            have hja := (Hca.out.block vb (lt_of_obj HB.out.1) (by simp)).trans HB.out.1
            obtain ⟨b0, b1, b2, b3, b4⟩ := box_kept vb hja (Chg.refl [] wa)
            obtain ⟨d0, d1, d2, d3, d4⟩ := box_kept bs hsa (Chg.refl [] wa)
            have Heq2 := Lib.hid (Equal_any p _ f f5 wa j (shortN j n) _ _ (HjW.out.chg Hca.out) (JN.same HsW.out Hca.out) (fun g hg => Nat.lt_of_lt_of_le (HpW.out g hg) Hca.out.size) (fun g hg => hg.2) (HTW.out.new Hca.out))
            unfold Ev.val at Heq2
            obtain ⟨q2, hq2⟩ : ∃ q, q = j.equal Jv.u8 (shortN j n) := ⟨_, rfl⟩
            rw [← hq2] at Heq2 Hhit
            clear hq2 hsa hja
            go_wp2_with fail
            refine Heq2.out.mono ?_
            rintro e wb ⟨rfl, hcb⟩
            have Hcb := Lib.hid hcb
            clear hcb b0 b1 b2 b3 b4 d0 d1 d2 d3 d4
            cases q2
            · skip
              go_wp2_with fail
              exact ⟨⟨n + 1, by omega, by go_num, Lib.hid ⟨fun m hm => by
                by_cases hmn : m < n
                · exact Hs.out.1 m hmn
                · rw [show m = n by omega]; exact Hhit.out, (((Hc4.out.trans Hc6.out).trans HW.out).trans Hca.out).trans Hcb.out⟩⟩, by simp [intOf]; omega⟩
            · skip
              obtain ⟨⟨x0, x1, x2, x3, x4, x5, x6, x7, x8⟩, xf, xl⟩ := nineM (((Hca.out.trans Hcb.out).block bm (lt_of_obj HB.out.2.2.1) (by simp)).trans HB.out.2.2.1)
              obtain ⟨⟨r0, r1, r2, r3, r4, r5, r6, r7, r8⟩, rf, rl⟩ := nineM (((Hca.out.trans Hcb.out).block (vb + 1) (lt_of_obj HB.out.2.2.2.2) (by simp)).trans HB.out.2.2.2.2)
              go_wp2_with fail
              refine bodyPost_ret (v := .tuple #[.agg #[.int .i64 kk, .int .i64 ci, .int .i64 cc, .string ct, .int .i64 ev.k, .int .i64 ev.n, .string ev.t, .slice ev.na ev.nl ev.nc, .slice ev.ia ev.il ev.ic], .int .i64 0]) (by simp [results, Tryd.results10, go_sem, r0, r1, r2, r3, r4, r5, r6, r7, r8]) rfl ?_
              have hst := stM_chg wb (vb + 1) kk ci cc ct ev
              have hcE := (((((Hc1.out.trans Hc2.out).trans Hc4.out).trans Hc6.out).trans HW.out).trans (Hca.out.trans Hcb.out))
              have hvl := (show JV _ f wb ev.val (candB j n) from JN.same Hj4.out ((Hc6.out.trans HW.out).trans (Hca.out.trans Hcb.out)))
              have hlt1 := lt_of_obj Hr1.out
              have hjE : JN w.heap.size f (stM wb (vb + 1) kk ci cc ct ev) ev.val (candB j n) := (hvl.kept hst.toP fun x hx hm => by have := List.mem_singleton.1 hm; have := hx.1; omega).imp fun x hx => ⟨Nat.le_trans Hc1.out.size hx.1, Nat.lt_of_lt_of_le hx.2 hst.size⟩
              have hend : DePost f j w (.returned (.tuple #[mB kk ci cc ct ev, .int .i64 0])) (stM wb (vb + 1) kk ci cc ct ev) := by
                refine ⟨Or.inl ⟨n, hlt, by rw [Hhit.out]; simp, Hs.out.1, ev, ?_, hjE⟩, hcE.comp hst fun x hx => Or.inr (by have := List.mem_singleton.1 hx; have := Hvb.out; omega)⟩
                rw [Heq.out.1, Heq.out.2.1, Heq.out.2.2.1, Heq.out.2.2.2.1]
              exact hend
          · skip
            obtain ⟨⟨x0, x1, x2, x3, x4, x5, x6, x7, x8⟩, xf, xl⟩ := nineM ((Hca.out.block bm (lt_of_obj HB.out.2.2.1) (by simp)).trans HB.out.2.2.1)
            obtain ⟨⟨r0, r1, r2, r3, r4, r5, r6, r7, r8⟩, rf, rl⟩ := nineM ((Hca.out.block (vb + 1) (lt_of_obj HB.out.2.2.2.2) (by simp)).trans HB.out.2.2.2.2)
            go_wp2_with fail
            refine bodyPost_ret (v := .tuple #[.agg #[.int .i64 kk, .int .i64 ci, .int .i64 cc, .string ct, .int .i64 ev.k, .int .i64 ev.n, .string ev.t, .slice ev.na ev.nl ev.nc, .slice ev.ia ev.il ev.ic], .int .i64 0]) (by simp [results, Tryd.results10, go_sem, r0, r1, r2, r3, r4, r5, r6, r7, r8]) rfl ?_
            have hst := stM_chg wa (vb + 1) kk ci cc ct ev
            have hcE := (((((Hc1.out.trans Hc2.out).trans Hc4.out).trans Hc6.out).trans HW.out).trans Hca.out)
            have hvl := (show JV _ f wa ev.val (candB j n) from JN.same Hj4.out ((Hc6.out.trans HW.out).trans Hca.out))
            have hlt1 := lt_of_obj Hr1.out
            have hjE : JN w.heap.size f (stM wa (vb + 1) kk ci cc ct ev) ev.val (candB j n) := (hvl.kept hst.toP fun x hx hm => by have := List.mem_singleton.1 hm; have := hx.1; omega).imp fun x hx => ⟨Nat.le_trans Hc1.out.size hx.1, Nat.lt_of_lt_of_le hx.2 hst.size⟩
            have hend : DePost f j w (.returned (.tuple #[mB kk ci cc ct ev, .int .i64 0])) (stM wa (vb + 1) kk ci cc ct ev) := by
              refine ⟨Or.inl ⟨n, hlt, by rw [Hhit.out]; simp, Hs.out.1, ev, ?_, hjE⟩, hcE.comp hst fun x hx => Or.inr (by have := List.mem_singleton.1 hx; have := Hvb.out; omega)⟩
              rw [Heq.out.1, Heq.out.2.1, Heq.out.2.2.1, Heq.out.2.2.2.1]
            exact hend
    · obtain rfl : n = 5 := by omega
      have hr := ((Hc2.out.trans Hs.out.2).block (vb + 1) (lt_of_obj Hr1.out) (by simp)).trans Hr1.out
      obtain ⟨⟨r0, r1, r2, r3, r4, r5, r6, r7, r8⟩, rf, rl⟩ := nineM hr
      clear hr
      go_wp2_with fail
      refine bodyPost_ret (v := .tuple #[.agg #[.int .i64 0, .int .i64 0, .int .i64 0, .string ⟨#[]⟩, .int .i64 0, .int .i64 0, .string ⟨#[]⟩, .slice none 0 0, .slice none 0 0], .int .i64 3]) (by simp [results, Tryd.results10, go_sem, r0, r1, r2, r3, r4, r5, r6, r7, r8]) rfl ?_
      have hst := stM_chg wr (vb + 1) 0 0 0 ⟨#[]⟩ ev0
      exact ⟨Or.inr ⟨Hs.out.1, rfl⟩, ((Hc1.out.trans Hc2.out).trans Hs.out.2).comp hst fun x hx => Or.inr (by have := List.mem_singleton.1 hx; have := Hvb.out; omega)⟩
end Go.Proofs.YtiklgipcgdgkoaaDoor.Jv
