/- The law WordindexFind. -/
import Derived.Test.YtnkacmcggcdlpaaWiMod
namespace Go.Proofs.Ytnkacmcggcdlpaa
open Go.RowKit Go.ChangeMaps Go.MapKept Go.Shelf
set_option linter.unusedVariables false
set_option linter.unusedSimpArgs false
set_option maxRecDepth 100000 in
set_option maxHeartbeats 8000000 in
theorem findLaw_any (p : Nat → Prop) (w : World) (v : Value) (T : List ByteArray) (text word : ByteArray) (which : Int) (h : StrsP p w v T) (ht : text.size ≤ maxLen) :
    Calls Try.prog 4 #[v, .string text, .string word, .int .i64 which] w fun e w' => e = .returned (.bool true) ∧ Chg [] w w' := by
  obtain ⟨a0, c0, rfl, hml, hcp⟩ := h.shape
  have H := Lib.hid h
  unfold maxLen at hml ht
  clear h
  obtain ⟨tn, htn⟩ : ∃ tn : Nat, min (text.size : Int) 120 = tn := ⟨(min (text.size : Int) 120).toNat, by omega⟩
  have htl : tn ≤ text.size := by omega
  have htl' : (tn : Int) ≤ text.size := by omega
  obtain ⟨X, hX⟩ : ∃ T0, text.extract 0 tn = T0 := ⟨_, rfl⟩
  have hXs : X.size ≤ 120 := by rw [← hX, ByteArray.size_extract]; omega
  go_enter Try.func4, Try.ntmps4
  go_wp2_with fail
  refine (example_any _).mono ?_
  rintro e w1 ⟨rfl, hc1⟩
  have H1 := Lib.hid hc1
  clear hc1
  go_wp2_with fail
  refine (named_any p w1 _ T (H.out.same H1.out)).mono ?_
  rintro e w2 ⟨a2, c2, D, hD, rfl, hO2, hc2⟩
  have hDl : D.length ≤ 5 := by rw [hD, namedD_len]; omega
  have HDok := Lib.hid (show DcOk D by rw [hD]; exact namedD_ok T _ (by omega))
  have H2 := Lib.hid (And.intro hO2 (H1.out.trans hc2))
  clear hD hO2 hc2
  go_wp2_with fail
  refine (build_any _ w2 _ D H2.out.1.read HDok.out).mono ?_
  rintro e w3 ⟨u3, I, rfl, hI, hx3, hc3⟩
  obtain ⟨a3, c3, rfl, _, _⟩ := hx3.shape
  have H3 := Lib.hid (And.intro hI (And.intro hx3 hc3))
  clear hI hx3 hc3
  by_cases hD0 : D.length = 0
  · have hd0 : ((D.length : Int) == 0) = true := by simpa using hD0
    have hd1 : decide ((D.length : Int) = 0) = true := decide_eq_true (by omega)
    go_wp2_with fail
    refine (example_any _).mono ?_
    rintro e w4 ⟨rfl, hc4⟩
    have H4 := Lib.hid hc4
    clear hc4
    go_wp2_with fail
    go_ret
    exact ⟨rfl, (H2.out.2.trans H3.out.2.2).trans H4.out⟩
  · have hD1 : (1 : Int) ≤ D.length := by omega
    obtain ⟨_, hj0, hj1⟩ : True ∧ 0 ≤ modI which D.length ∧ modI which D.length < D.length := ⟨trivial, modI_bd which D.length hD1⟩
    obtain ⟨j, hj⟩ : ∃ j : Nat, modI which D.length = (j : Int) := ⟨(modI which D.length).toNat, by omega⟩
    have hjl : j < D.length := by omega
    have Hmod := Lib.hid (fun W => mod_any which D.length W hD1 (by omega))
    rw [hj] at Hmod
    clear hj hj0 hj1
    have hd0 : ¬ ((D.length : Int) = 0) := by omega
    have hd1 : ((D.length : Int) == 0) = false := by simpa using hD0
    go_wp2_with fail
    refine (Hmod.out _).mono ?_
    rintro e w4 ⟨rfl, rfl⟩
    obtain ⟨g2, cc, hv, hge2, hgl2⟩ := World.ownsRow.form H2.out.1 (by omega)
    simp only [Value.slice.injEq] at hv
    obtain ⟨rfl, hnn, rfl⟩ := hv
    clear hnn
    have hO3 := H2.out.1.same H3.out.2.2
    obtain ⟨g', off', he, _, x0, x1, x2⟩ := (hO3.read).cells j hjl
    cases he
    obtain ⟨nm, hnm⟩ : ∃ n, (D.getD j dc0).1 = n := ⟨_, rfl⟩
    rw [hnm] at x0
    have Hnm := Lib.hid (show D[j].1 = nm by rw [← hnm, List.getD_eq_getElem?_getD, List.getElem?_eq_getElem hjl]; rfl)
    have l0 := lt_of_cell x0
    have hj1 : (j : Int) < D.length := by omega
    have hj0 : (0 : Int) ≤ (j : Int) := by omega
    rw [Nat.zero_add] at x0
    clear hO3 x1 x2 hnm
    obtain ⟨w5, hw5⟩ : ∃ q, q = (w3.alloc (.cells #[.string nm, .int .i64 0, .string X] 35)).drew := ⟨_, rfl⟩
    obtain ⟨n5, hn5⟩ : ∃ q, q = w3.heap.size := ⟨_, rfl⟩
    have hc5 : Chg [] w3 w5 := by rw [hw5]; exact ((Chg.refl [] _).alloc _).drew
    have hb5 : w5.heap[n5]? = some (.cells #[.string nm, .int .i64 0, .string X] 35 (0, 0)) := by rw [hw5, hn5]; exact heap_at w3 _ _ rfl
    have y0 : w5.cell? ⟨n5, 0, none⟩ = some (.string nm) := cell_of_heap hb5 rfl
    have y1 : w5.cell? ⟨n5, 1, none⟩ = some (.int .i64 0) := cell_of_heap hb5 rfl
    have y2 : w5.cell? ⟨n5, 2, none⟩ = some (.string X) := cell_of_heap hb5 rfl
    have ly := lt_of_cell y0
    obtain ⟨t, htI, htE⟩ := H3.out.1.at (List.getElem_mem hjl)
    obtain ⟨D', hD'⟩ : ∃ E, E = D.set j ((nm, 0, X) : Dc) := ⟨_, rfl⟩
    have HD' := Lib.hid (show DcOk D' ∧ IsIdx D' (I.set t (entO (nm, 0, X))) ∧ D'.length = D.length by
      rw [hD']
      exact ⟨HDok.out.set hjl _ Hnm.out.symm (by show X.size ≤ 2000; omega), H3.out.1.set hjl htI htE _ Hnm.out.symm, by simp⟩)
    have hdn : DcOk [((nm, 0, X) : Dc)] := by
      have hj' := HDok.out.ok _ (List.getElem_mem hjl)
      rw [Hnm.out] at hj'
      refine ⟨by simp, fun d hd => ?_, by simp⟩
      rw [List.mem_singleton.1 hd]
      exact ⟨hj'.1, hj'.2.1, by show X.size ≤ 2000; omega⟩
    have Hup := Lib.hid (update_any _ _ w5 _ I nm 0 X t (H3.out.2.1.same hc5) (H3.out.1.ok HDok.out) (fun g hg => by have := hg.2; have := hc5.size; omega) htI (by rw [htE]; exact Hnm.out) hdn)
    have HW5 := Lib.hid (And.intro hw5 hn5)
    have Hc5 := Lib.hid (And.intro (H3.out.2.2.trans hc5) hb5)
    have HDs := Lib.hid hD'
    have Hjl := Lib.hid hjl
    clear hw5 hn5 hc5 hb5 htI htE hD' hdn
    go_upto_region 8 with (fail)
    go_region
    go_upto_region 9 with (fail)
    go_wp2_with fail
    rw [← HW5.out.1, ← HW5.out.2]
    refine Hup.out.mono ?_
    rintro e w6 ⟨a6, c6, rfl, hx6, hc6⟩
    have hc36 := Hc5.out.1.trans hc6
    have hbk := (hc6.block _ (lt_of_obj Hc5.out.2) (by simp)).trans Hc5.out.2
    have z0 : w6.cell? ⟨n5, 0, none⟩ = some (.string nm) := cell_of_heap hbk rfl
    have z1 : w6.cell? ⟨n5, 1, none⟩ = some (.int .i64 0) := cell_of_heap hbk rfl
    have z2 : w6.cell? ⟨n5, 2, none⟩ = some (.string X) := cell_of_heap hbk rfl
    have lz := lt_of_cell z0
    have hO6 := H2.out.1.same hc36
    obtain ⟨g', off', he, _, v0, v1, v2⟩ := (hO6.read).cells j hjl
    cases he
    rw [Nat.zero_add] at v0 v1 v2
    have hfr : ∀ i, w6.frozen? ⟨g2, i, none⟩ = false := by
      rcases hO6.2 with ⟨hv, _⟩ | ⟨g', cap', cur', hv, _, hh, _⟩
      · cases hv
      · cases hv
        exact fun i => frozen_of_heap hh
    have f0 := hfr (j * 3)
    have f1 := hfr (j * 3 + 1)
    have f2 := hfr (j * 3 + 2)
    have l6 := lt_of_cell v0
    obtain ⟨w7, hw7⟩ : ∃ q, q = ((w6.setCell ⟨g2, j * 3, none⟩ (.string nm)).setCell ⟨g2, j * 3 + 1, none⟩ (.int .i64 0)).setCell ⟨g2, j * 3 + 2, none⟩ (.string X) := ⟨_, rfl⟩
    have hO7 : OwnD w7 w1.heap.size (.slice (some ⟨g2, 0, none⟩) D.length c2) D' := by
      rw [hw7, HDs.out]
      exact hO6.set3 rfl j hjl (nm, 0, X)
    have hc7 : Chg [g2] w6 w7 := by
      rw [hw7]
      exact (((Chg.refl [g2] w6).setCell (p := ⟨g2, j * 3, none⟩) (Or.inl (by simp)) _).setCell (p := ⟨g2, j * 3 + 1, none⟩) (Or.inl (by simp)) _).setCell (p := ⟨g2, j * 3 + 2, none⟩) (Or.inl (by simp)) _
    have HW7 := Lib.hid hw7
    have Hx6 := Lib.hid (And.intro hx6 (And.intro hc36 (And.intro hc7 hO7)))
    have Hbd := Lib.hid (build_any _ w7 _ D' hO7.read HD'.out.1)
    clear hx6 hc36 hc7 hO7 hw7 hO6 hfr hbk hc6
    go_wp2_with fail
    rw [← HW7.out]
    refine Hbd.out.mono ?_
    rintro e w8 ⟨u8, J, rfl, hJ, hx8, hc8⟩
    have hJe : J = I.set t (entO (nm, 0, X)) := hJ.unique HD'.out.2.1
    obtain ⟨a8, c8, rfl, _, _⟩ := hx8.shape
    have hx6' : IxP (fun g => w5.heap.size ≤ g ∧ g < w6.heap.size) (fun g => w5.heap.size ≤ g ∧ g < w6.heap.size) w6 (.slice a6 I.length c6) J := by rw [hJe]; exact Hx6.out.1
    have hJl : J.length = I.length := by rw [hJe, List.length_set]
    have h56 := Hx6.out.2.2.1
    have hs56 := h56.size
    have hg2 : g2 < w5.heap.size := Nat.lt_of_lt_of_le hgl2 Hc5.out.1.size
    have hx8u : IxP (fun g => w5.heap.size ≤ g ∧ g < w6.heap.size) (fun g => w5.heap.size ≤ g ∧ g < w6.heap.size) w8 (.slice a6 J.length c6) J := by
      rw [← hJl] at hx6'
      exact (hx6'.kept h56.toP (fun g hg hm => by rw [List.mem_singleton.1 hm] at hg; have := hg.1; omega) (fun g hg hm => by rw [List.mem_singleton.1 hm] at hg; have := hg.1; omega)).same hc8
    have hD8 : DcP _ w8 _ D' := (Hx6.out.2.2.2.read).same hc8
    have hch8 : Chg [] w w8 := ((H2.out.2.trans Hx6.out.2.1).comp h56 fun g hg => Or.inr (by rw [List.mem_singleton.1 hg]; have := H1.out.size; omega)).trans hc8
    have HDl := Lib.hid HD'.out.2.2
    have HJ := Lib.hid hJ
    have HxU := Lib.hid hx8u
    have HxV := Lib.hid hx8
    have HD8 := Lib.hid hD8
    have Hch8 := Lib.hid hch8
    have hJ20 : J.length ≤ 1000 := by have := hJ.len; have := HD'.out.2.2; omega
    rw [← hJl]
    clear hJe hx6' hJl h56 hs56 hg2 hx8u hD8 hch8 hJ hx8 hc8
    go_wp2_with fail
    refine (find_any _ _ w8 _ J word HxU.out hJ20).mono ?_
    rintro e w9 ⟨a9, c9, rfl, hN, hc9⟩
    have H9 := Lib.hid (And.intro hN hc9)
    clear hN hc9
    go_wp2_with fail
    go_loopw [77] (fun i wr => ∃ k : Nat, k ≤ D.length ∧ i = .int .i64 (k : Nat) ∧ Hid (Chg [] w9 wr)) (fun i _ => D.length - (intOf i).toNat)
    case atStart => exact ⟨0, by omega, rfl, Lib.hid (Chg.refl _ _)⟩
    case round =>
      obtain ⟨k, hk, rfl, Hc⟩ := hrel
      by_cases hlt : k < D.length
      · have hkD : k < D'.length := by rw [HDl.out]; exact hlt
        obtain ⟨g', off', he, _, x0, x1, x2⟩ := (HD8.out.same (H9.out.2.trans Hc.out)).cells k hkD
        cases he
        have hfi := find_iff HJ.out HD'.out.1.nd (List.getElem_mem hkD) word
        have htx := (HD'.out.1.ok _ (List.getElem_mem hkD)).2.2
        have hge : D'.getD k dc0 = D'[k] := by rw [List.getD_eq_getElem?_getD, List.getElem?_eq_getElem hkD]; rfl
        obtain ⟨d, hd⟩ : ∃ d, D'[k] = d := ⟨_, rfl⟩
        rw [hge, hd] at x0 x1 x2
        rw [hd] at hfi htx
        obtain ⟨nk, vk, tk⟩ := d
        simp only at x0 x1 x2 hfi htx
        rw [Nat.zero_add] at x0 x2
        obtain ⟨b, hb⟩ : ∃ b, memb word (words tk) = b := ⟨_, rfl⟩
        have HcN := Lib.hid (fun (W : World) (hW : Chg [] w9 W) => refContainsS _ W _ _ nk (H9.out.1.same hW))
        rw [hfi, hb] at HcN
        have HcW := Lib.hid (fun W => words_any W tk htx)
        have Hb := Lib.hid hb
        have l0 := lt_of_cell x0
        have hk1 : (k : Int) < D.length := by omega
        have hk0 : (0 : Int) ≤ (k : Int) := by omega
        clear hfi hge hd hb htx hkD x1
        go_upto_region 18 with (fail)
        cases b
        all_goals
          go_region_held3 (fun W => W.cell? ⟨g2, k * 3, none⟩ = some (.string nk) ∧ W.cell? ⟨g2, k * 3 + 2, none⟩ = some (.string tk))
            (first | (go_keep; done) | (exact ⟨r0, r2⟩))
            (first
              | (go_at_call 7; (with_reducible refine (HcN.out _ Hc.out.drew).mono ?_); rintro e wA ⟨rfl, rfl⟩)
              | (go_at_call 6; (with_reducible refine (HcW.out _).mono ?_); rintro e wB ⟨aB, cB, rfl, hsB, hcB⟩; have hcB' := (Chg.refl [] wr).drew.trans hcB; have r0 := (hcB'.cell l0 (by simp)).trans x0; have r2 := (hcB'.cell (p := ⟨g2, k * 3 + 2, none⟩) l0 (by simp)).trans x2; have HB := Lib.hid (And.intro (refContainsS _ wB _ _ word hsB) (Hc.out.trans hcB')); rw [Hb.out] at HB; clear hsB hcB hcB')
              | (go_at_call 7; (with_reducible refine HB.out.1.mono ?_); rintro e wC ⟨rfl, rfl⟩))
          all_goals
            go_wp2_with fail
            exact ⟨⟨k + 1, by omega, by go_num, Lib.hid HB.out.2⟩, by simp [intOf]; omega⟩
      · have hk1 : ¬ ((k : Int) < D.length) := by omega
        go_wp2_with fail
        refine (example_any _).mono ?_
        rintro e wE ⟨rfl, hcE⟩
        have Heq := Lib.hid (eqIx_any _ _ _ _ wE _ _ J (HxU.out.same (H9.out.2.trans (Hc.out.trans hcE))) (HxV.out.same (H9.out.2.trans (Hc.out.trans hcE))))
        have HE := Lib.hid (Hch8.out.trans (H9.out.2.trans (Hc.out.trans hcE)))
        clear hcE
        go_wp2_with fail
        refine Heq.out.mono ?_
        rintro e wF ⟨rfl, hcF⟩
        have HF := Lib.hid (HE.out.trans hcF)
        clear hcF
        go_wp2_with fail
        go_ret
        exact ⟨rfl, HF.out⟩
end Go.Proofs.Ytnkacmcggcdlpaa
