/- DocsyncCatchUp: the walk. -/
import Derived.Test.YtihpcpcfccamoaaDocT
import Derived.Deep.DeepCutAuto
namespace Go.Proofs.Ytihpcpcfccamoaa
open Go Go.BigFrame Go.RowKit
set_option linter.unusedVariables false
set_option linter.unusedSimpArgs false
set_option maxRecDepth 100000 in
set_option maxHeartbeats 8000000 in
theorem catchUpLaw_any (w : World) (text : ByteArray) (sv ev : Value) (S : List I3) (EE : List (List Edit)) (xat : Int) (htx : text.size ≤ 9223372036854775807) (hS : I3s (fun k => k < w.heap.size) w sv S) (hE : Edss (fun k => k < w.heap.size) w ev EE) (hF : ∀ E ∈ EE, Fits E) :
    Calls Try.prog 4 #[.string text, sv, ev, .int .i64 xat] w fun e w' => e = .returned (.bool true) ∧ Chg [] w w' := by
  have HS := Lib.hid hS
  have HE := Lib.hid hE
  have HF := Lib.hid hF
  obtain ⟨sa, sc, rfl, hsl, hsc⟩ := hS.shape
  obtain ⟨ea, ec, rfl, hel, hec⟩ := hE.shape
  unfold maxLen at hsl hel
  obtain ⟨tn, htn⟩ : ∃ tn : Nat, min (text.size : Int) 200 = tn := ⟨(min (text.size : Int) 200).toNat, by omega⟩
  have htl : tn ≤ text.size := by omega
  have ht2 : tn ≤ 200 := by omega
  have htl' : (tn : Int) ≤ text.size := by omega
  obtain ⟨T0, hT0⟩ : ∃ T0, text.extract 0 tn = T0 := ⟨_, rfl⟩
  have hT0s : T0.size ≤ 2000 := by rw [← hT0, ByteArray.size_extract]; omega
  obtain ⟨sn, hsn⟩ : ∃ sn : Nat, min (S.length : Int) 20 = sn := ⟨(min (S.length : Int) 20).toNat, by omega⟩
  have hs1 : sn ≤ S.length := by omega
  have hs2 : sn ≤ 20 := by omega
  have hs3 : (sn : Int) ≤ sc := by omega
  have Hsn := Lib.hid hsn
  clear hS hE hF hsn
  go_enter Try.func4, Try.ntmps4
  go_wp2_with fail
  refine (syncExample_any _).mono ?_
  rintro e w1 ⟨rfl, c1⟩
  have C1 := Lib.hid c1
  clear c1
  go_wp2_with fail
  refine (rm_new w _ (C1.out.alloc _) w1.heap.size T0 3 30 (heap_at _ _ _ rfl) hT0s (by decide) (by decide)).mono ?_
  rintro e w2 ⟨rb, rfl, h2⟩
  have H2 := Lib.hid h2
  clear h2 htn hT0
  go_wp2_with fail
  refine (rm_join H2.out 0 (by decide) (by decide) (by decide) (by decide)).mono ?_
  rintro e w3 ⟨rfl, h3, -⟩
  have H3 := Lib.hid h3
  clear h3
  go_wp2_with fail
  refine (rm_join H3.out 1 (by decide) (by decide) (by decide) (by decide)).mono ?_
  rintro e w4 ⟨rfl, h4, -⟩
  have H4 := Lib.hid h4
  clear h4
  go_wp2_with fail
  refine (rm_open H4.out 0 (by decide) (by decide) (by decide) (by decide)).mono ?_
  rintro e w5 ⟨rfl, h5, -⟩
  have H5 := Lib.hid ((h5.same ((Chg.refl [] w5).alloc (.cells #[.string ⟨#[100]⟩, .int .i64 3, .string T0] 30 (0, 0)))).grow (S := fun _ => False) (a' := w5.alloc (.cells #[.string ⟨#[100]⟩, .int .i64 3, .string T0] 30 (0, 0))) (ChgP.refl _ _) (fun _ h => h.elim) [] (by simp))
  have H5' := Lib.hid (h5.grow (S := fun _ => False) ((Chg.refl [] w5).alloc (.cells #[.string ⟨#[100]⟩, .int .i64 3, .string T0] 30 (0, 0))).p (fun _ h => h.elim) [w5.heap.size] (fun x hx => by rw [List.mem_singleton.1 hx]; exact Or.inr ⟨Nat.le_refl _, by simp⟩))
  clear h5 H5
  go_wp2_with fail
  refine (rm_open H5'.out 1 (by decide) (by decide) (by decide) (by decide)).mono ?_
  rintro e w6 ⟨rfl, h6, hx6⟩
  have hb6 := (hx6 w5.heap.size (by simp)).trans (heap_at w5 (.cells #[.string ⟨#[100]⟩, .int .i64 3, .string T0] 30 (0, 0)) _ rfl)
  obtain ⟨y0, y1, y2, _, _, _⟩ := three hb6
  have hl6 : w5.heap.size < w6.heap.size := lt_of_obj hb6
  have hl7 : w5.heap.size < w6.heap.size + 1 := by omega
  have H6 := Lib.hid h6
  clear h6 hx6 hb6
  go_wp2_with fail
  refine (newReplica_any _ ⟨#[100]⟩ 3 T0).mono ?_
  rintro e w7 ⟨bo, rfl, hb, hbl, c7⟩
  have hI := (show KuI w w7 ([] ++ [w5.heap.size] ++ [bo]) rb 3 T0 [] bo 3 T0 0 from
    ⟨H6.out.grow (S := fun _ => False) (((Chg.refl [] w6).alloc _).trans c7).p (fun _ h => h.elim) [bo] (fun x hx => by rw [List.mem_singleton.1 hx]; exact Or.inr ⟨by simp at hbl; omega, lt_of_obj hb⟩), ⟨by simp, by have := H6.out.chg.size; simp at hbl; omega⟩, hb, ⟨by simp, rfl, rfl⟩, rfl, fun k hk => by simp at hk, by simp⟩)
  have HI := Lib.hid hI
  clear hb hbl c7 hI y0 y1 y2 hl6 hl7
  have hsn := Hsn.out
  obtain ⟨at', hat⟩ := Int.eq_ofNat_of_zero_le (modI_bd xat ((sn : Int) + 1) (by omega)).1
  have hat2 : at' ≤ sn := by have := (modI_bd xat ((sn : Int) + 1) (by omega)).2; omega
  have Hat := Lib.hid hat
  clear hat
  go_wp2_with fail
  refine (mod_any xat ((sn : Int) + 1) _ (by omega) (by omega)).mono ?_
  rintro e w7' ⟨rfl, rfl⟩
  rw [Hat.out]
  go_wp2_with fail
  go_loopw [15, 92] (fun oo jj wr => ∃ (i : Nat) (ver : Int) (T : ByteArray) (hist : List (List Edit)) (X : List Nat) (bo : Nat) (vo : Int) (To : ByteArray) (m : Nat), i ≤ sn ∧ jj = .int .i64 (i : Nat) ∧ oo = .pointer (some ⟨bo, 0, none⟩) ∧ hist.length ≤ i ∧ KuI w wr X rb ver T hist bo vo To m) (fun _ jj _ => sn - (intOf jj).toNat)
  case atStart => exact ⟨0, 3, T0, [], _, bo, 3, T0, 0, by omega, rfl, rfl, by simp, HI.out⟩
  case round =>
    clear HI
    obtain ⟨i, ver, T, hist, X, bo, vo, To, m, hi, rfl, rfl, hhl, hI⟩ := hrel
    have HI := Lib.hid hI
    have Hhl := Lib.hid hhl
    clear hI
    by_cases hlt : i < sn
    · have hi1 : (i : Int) < sn := by omega
      obtain ⟨g, off, hsa, hg, r0, r1, r2⟩ := HS.out.at i (by omega) (0, 0, 0)
      obtain ⟨x, hx⟩ : ∃ x, S.getD i (0, 0, 0) = x := ⟨_, rfl⟩
      obtain ⟨xd, xa, xb⟩ := x
      rw [hx] at r0 r1 r2
      simp only at hg r0 r1 r2
      subst hsa
      clear hx
      by_cases hia : i = at'
      · subst hia
        have hib : ((i : Int) == (i : Int)) = true := by simp
        go_wp2_with fail
        refine (rm_document HI.out.room).mono ?_
        rintro e wp ⟨rfl, cp⟩
        go_wp2_with fail
        refine (newReplica_any _ ⟨#[100]⟩ ver T).mono ?_
        rintro e wq ⟨bn, rfl, hb2, hbl2, cq⟩
        have HIb := Lib.hid (HI.out.new (b := bn) ((cp.alloc (.cells #[.string ⟨#[100]⟩, .int .i64 ver, .string T] 30 (0, 0))).trans cq) (by have := cp.size; simp at hbl2; omega) hb2)
        clear cp cq hb2 hbl2
        go_wp2_with fail
        refine (rm_document HIb.out.room).mono ?_
        rintro e wd ⟨rfl, cd⟩
        have hIk := (HIb.out.same cd).box (.cells #[.string ⟨#[100]⟩, .int .i64 ver, .string T] 30 (0, 0))
        have hbk := heap_at wd (.cells #[.string ⟨#[100]⟩, .int .i64 ver, .string T] 30 (0, 0)) _ rfl
        obtain ⟨wk, hwk⟩ : ∃ x, x = wd.alloc (.cells #[.string ⟨#[100]⟩, .int .i64 ver, .string T] 30 (0, 0)) := ⟨_, rfl⟩
        have Hwk := Lib.hid hwk
        rw [← hwk] at hIk hbk
        obtain ⟨nb, hnb⟩ : ∃ n, n = wd.heap.size := ⟨_, rfl⟩
        have Hnb := Lib.hid hnb
        rw [← hnb] at hIk hbk
        have HIk := Lib.hid hIk
        have Hbk := Lib.hid hbk
        clear cd hIk hbk hwk hnb
        by_cases he : EE.length = 0
        · have he1 : ((EE.length : Int) == 0) = true := by simp [he]
          clear he
          go_wp2_with fail
          rw [← Hwk.out]
          first
            | exact ⟨⟨i + 1, ver, T, hist, _, _, _, _, _, by omega, by go_num, rfl, by have := Hhl.out; omega, HIk.out⟩, by simp [intOf]; omega⟩
            | exact ⟨⟨_, _, _, _, _, _, _, _, _, _, _, _, _, _, _, _, _, _, _, _, _, _, _, _, _, _, _, _, _, _, _, _, _, _, _, _, _, _, _, _, _, _, _, _, _, _, _, _, _, _, _, _, _, _, _, _, _, _, _, _, _, _, _, _, _, _, _, _, _, _, _, _, _, ⟨i + 1, ver, T, hist, _, _, _, _, _, by omega, by go_num, rfl, by have := Hhl.out; omega, HIk.out⟩, rfl⟩, by simp [intOf]; omega⟩
        · have he1 : ¬ (EE.length : Int) = 0 := by omega
          have hec1 : (1 : Int) ≤ EE.length := by omega
          go_upto_region 21 with (fail)
          rw [← Hwk.out, ← Hnb.out]
          have hcw := HIk.out.room.chg
          have p1 := (hcw.cell (p := ⟨g, off + i * 3 + 1, none⟩) hg (by simp)).trans r1
          obtain ⟨ma, hma⟩ := Int.eq_ofNat_of_zero_le (modI_bd xa EE.length (by omega)).1
          have hma3 : ma < EE.length := by have := (modI_bd xa EE.length (by omega)).2; omega
          have Hmq := Lib.hid (show ∀ W, Calls Try.prog 10 #[.int .i64 xa, .int .i64 EE.length] W fun e w' => e = .returned (.int .i64 (ma : Nat)) ∧ w' = W from fun W => by
            refine (mod_any xa EE.length W (by omega) (by omega)).mono ?_
            rintro e w' ⟨rfl, rfl⟩
            exact ⟨by rw [hma], rfl⟩)
          obtain ⟨ge, oe, hea, hge, u, e0, hu0⟩ := HE.out.at ma hma3 []
          obtain ⟨E, hEm⟩ : ∃ E, EE.getD ma [] = E := ⟨_, rfl⟩
          have hFE : Fits E := HF.out E (by rw [← hEm, List.getD_eq_getElem?_getD, List.getElem?_eq_getElem hma3]; simp)
          rw [hEm] at hu0
          rw [Nat.mul_one] at e0
          have HFE := Lib.hid hFE
          have e1 := (hcw.cell (lt_of_cell e0) (by simp)).trans e0
          have Hu0 := Lib.hid hu0
          obtain ⟨ua, uc, hux, _, _⟩ := hu0.shape
          subst hux hea
          have hmi : (ma : Int) < EE.length := by omega
          obtain ⟨b0, b1, b2, _, _, _⟩ := three Hbk.out
          have Huk := Lib.hid (hu0.same hcw)
          have hver0 : 0 ≤ ver := by have := HIk.out.hm.2.2; omega
          have hverb : ver ≤ 9223372036854775807 := by have := HIk.out.hm.2.2; omega
          have Hcw := Lib.hid hcw
          clear hma hEm hFE e0 hu0 hcw
          go_cut [22] (fun hh wx => ((hh = .int .i64 0 ∧ KuI w wx (X ++ [bn] ++ [nb]) rb (ver + 1) (applyT T E) (hist ++ [E]) bn ver T hist.length) ∨ ∃ z : Int, z ≠ 0 ∧ hh = .int .i64 z ∧ KuI w wx (X ++ [bn] ++ [nb]) rb ver T hist bn ver T hist.length) ∧ wx.heap[nb]? = some (.cells #[.string ⟨#[100]⟩, .int .i64 ver, .string T] 30 (0, 0)))
          case first =>
            by_cases hdn : docNext ver T E = 0
            · go_region_law (first
                | (rw [if_pos (by simp [Region.wanted])]; go_simp; go_at_call 10; refine (Hmq.out _).mono ?_; rintro e wz ⟨rfl, rfl⟩)
                | (rw [if_pos (by simp [Region.wanted])]; go_simp; go_at_call 12; refine (rm_edit_ok (HIk.out.room.same ((Chg.refl [] wk).drew)) (fun k => k < w.heap.size) (fun k hk => Or.inl hk) 0 _ E (by decide) (by decide) (Huk.out.same ((Chg.refl [] wk).drew)) HFE.out (docNext_short hdn).1 hver0 hdn (by have := Hhl.out; omega) (by decide)).mono ?_; rintro e w4 ⟨uv, rfl, hups, h4, hx4, -⟩; have HI4 := Lib.hid ((HIk.out.same ((Chg.refl [] wk).drew)).edit h4 hx4 hdn HFE.out); have Hb4 := Lib.hid ((hx4 nb (by simp)).trans Hbk.out); clear hups h4 hx4))
              all_goals
                try simp only [List.getElem_toArray, List.getElem_cons_zero, List.getElem_cons_succ]
                go_wp2_with fail
                go_meet
                exact ⟨Or.inl ⟨rfl, HI4.out⟩, Hb4.out⟩
            · have hno := rm_edit_no (HIk.out.room.same ((Chg.refl [] wk).drew)) (fun k => k < w.heap.size) 0 _ E (by decide) (by decide) (Huk.out.same ((Chg.refl [] wk).drew)) HFE.out ⟨hver0, hverb⟩ hdn
              obtain ⟨z, hz⟩ : ∃ z, docNext ver T E = z := ⟨_, rfl⟩
              rw [hz] at hdn hno
              have Hno := Lib.hid hno
              have Hdn := Lib.hid hdn
              clear hno hz hdn
              go_region_law (first
                | (rw [if_pos (by simp [Region.wanted])]; go_simp; go_at_call 10; refine (Hmq.out _).mono ?_; rintro e wz ⟨rfl, rfl⟩)
                | (rw [if_pos (by simp [Region.wanted])]; go_simp; go_at_call 12; refine Hno.out.mono ?_; rintro e w4 ⟨rfl, c4⟩; have c4' : Chg [] wk w4 := ((Chg.refl [] wk).drew).trans c4; have HI4 := Lib.hid (HIk.out.same c4'); have Hb4 := Lib.hid ((c4'.block nb (lt_of_obj Hbk.out) (by simp)).trans Hbk.out); clear c4 c4'))
              all_goals
                try simp only [List.getElem_toArray, List.getElem_cons_zero, List.getElem_cons_succ]
                go_wp2_with fail
                go_meet
                exact ⟨Or.inr ⟨z, Hdn.out, rfl, HI4.out⟩, Hb4.out⟩
          case rest =>
            obtain ⟨hcase, hbc⟩ := hcut
            rcases hcase with ⟨rfl, hIc⟩ | ⟨z, hz, rfl, hIc⟩
            · have HIc := Lib.hid hIc
              have Hbc := Lib.hid hbc
              clear hIc hbc
              have hcw := HIc.out.room.chg
              have p2 := (hcw.cell (p := ⟨g, off + i * 3 + 2, none⟩) hg (by simp)).trans r2
              obtain ⟨mb, hmb⟩ := Int.eq_ofNat_of_zero_le (modI_bd xb EE.length (by omega)).1
              have hmb3 : mb < EE.length := by have := (modI_bd xb EE.length (by omega)).2; omega
              have Hmq2 := Lib.hid (show ∀ W, Calls Try.prog 10 #[.int .i64 xb, .int .i64 EE.length] W fun e w' => e = .returned (.int .i64 (mb : Nat)) ∧ w' = W from fun W => by
                refine (mod_any xb EE.length W (by omega) (by omega)).mono ?_
                rintro e w' ⟨rfl, rfl⟩
                exact ⟨by rw [hmb], rfl⟩)
              obtain ⟨ge2, oe2, hea2, hge2, u2, e2, hu2⟩ := HE.out.at mb hmb3 []
              simp only [Option.some.injEq, Addr.mk.injEq, and_true] at hea2
              obtain ⟨rfl, rfl⟩ := hea2
              rw [Nat.mul_one] at e2
              have e3 := (hcw.cell (lt_of_cell e2) (by simp)).trans e2
              obtain ⟨ub, ubc, hux2, _, _⟩ := hu2.shape
              subst hux2
              have hmbi : (mb : Int) < EE.length := by omega
              obtain ⟨b0, b1, b2, _, _, _⟩ := three Hbc.out
              have hne1 : ver ≠ ver + 1 := by omega
              obtain ⟨wj, hwj⟩ : ∃ x, x = wc := ⟨_, rfl⟩
              clear hmb e2 hu2 hcw p1 e1
              go_upto_region 23 with (fail)
              go_cut [24] (fun hh wx => hh = .int .i64 11 ∧ KuI w wx (X ++ [bn] ++ [nb]) rb (ver + 1) (applyT T E) (hist ++ [E]) bn ver T hist.length)
              case first =>
                go_region_law (first
                  | (rw [if_pos (by simp [Region.wanted])]; go_simp; go_at_call 10; refine (Hmq2.out _).mono ?_; rintro e wz ⟨rfl, rfl⟩)
                  | (rw [if_pos (by simp [Region.wanted])]; go_simp; go_at_call 12; refine (rm_edit_stale (HIc.out.room.same ((Chg.refl [] _).drew)) 1 ver _ (by decide) (by decide) hne1).mono ?_; rintro e w4 ⟨rfl, c4⟩; have HI4 := Lib.hid (HIc.out.same (((Chg.refl [] _).drew).trans c4)); clear c4))
                all_goals
                  try simp only [List.getElem_toArray, List.getElem_cons_zero, List.getElem_cons_succ]
                  go_wp2_with fail
                  go_meet
                  exact ⟨rfl, HI4.out⟩
              case rest =>
                obtain ⟨rfl, hIe⟩ := hcut
                have HIe := Lib.hid hIe
                clear hIe
                go_wp2_with fail
                exact ⟨⟨i + 1, ver + 1, applyT T E, hist ++ [E], _, _, _, _, _, by omega, by go_num, rfl, by have := Hhl.out; simp; omega, HIe.out⟩, by simp [intOf]; omega⟩
            · have hzb : (z == 0) = false := by simpa using hz
              have HIc := Lib.hid hIc
              clear hIc
              go_wp2_with fail
              exact ⟨⟨i + 1, ver, T, hist, _, _, _, _, _, by omega, by go_num, rfl, by have := Hhl.out; omega, HIc.out⟩, by simp [intOf]; omega⟩
      · have hib : ((i : Int) == (at' : Int)) = false := by simp; omega
        have hib2 : ¬ (i : Int) = at' := by omega
        have HIb := HI
        go_wp2_with fail
        refine (rm_document HIb.out.room).mono ?_
        rintro e wd ⟨rfl, cd⟩
        have hIk := (HIb.out.same cd).box (.cells #[.string ⟨#[100]⟩, .int .i64 ver, .string T] 30 (0, 0))
        have hbk := heap_at wd (.cells #[.string ⟨#[100]⟩, .int .i64 ver, .string T] 30 (0, 0)) _ rfl
        obtain ⟨wk, hwk⟩ : ∃ x, x = wd.alloc (.cells #[.string ⟨#[100]⟩, .int .i64 ver, .string T] 30 (0, 0)) := ⟨_, rfl⟩
        have Hwk := Lib.hid hwk
        rw [← hwk] at hIk hbk
        obtain ⟨nb, hnb⟩ : ∃ n, n = wd.heap.size := ⟨_, rfl⟩
        have Hnb := Lib.hid hnb
        rw [← hnb] at hIk hbk
        have HIk := Lib.hid hIk
        have Hbk := Lib.hid hbk
        clear cd hIk hbk hwk hnb
        by_cases he : EE.length = 0
        · have he1 : ((EE.length : Int) == 0) = true := by simp [he]
          clear he
          go_wp2_with fail
          rw [← Hwk.out]
          first
            | exact ⟨⟨i + 1, ver, T, hist, _, _, _, _, _, by omega, by go_num, rfl, by have := Hhl.out; omega, HIk.out⟩, by simp [intOf]; omega⟩
            | exact ⟨⟨_, _, _, _, _, _, _, _, _, _, _, _, _, _, _, _, _, _, _, _, _, _, _, _, _, _, _, _, _, _, _, _, _, _, _, _, _, _, _, _, _, _, _, _, _, _, _, _, _, _, _, _, _, _, _, _, _, _, _, _, _, _, _, _, _, _, _, _, _, _, _, _, _, ⟨i + 1, ver, T, hist, _, _, _, _, _, by omega, by go_num, rfl, by have := Hhl.out; omega, HIk.out⟩, rfl⟩, by simp [intOf]; omega⟩
        · have he1 : ¬ (EE.length : Int) = 0 := by omega
          have hec1 : (1 : Int) ≤ EE.length := by omega
          go_upto_region 21 with (fail)
          rw [← Hwk.out, ← Hnb.out]
          have hcw := HIk.out.room.chg
          have p1 := (hcw.cell (p := ⟨g, off + i * 3 + 1, none⟩) hg (by simp)).trans r1
          obtain ⟨ma, hma⟩ := Int.eq_ofNat_of_zero_le (modI_bd xa EE.length (by omega)).1
          have hma3 : ma < EE.length := by have := (modI_bd xa EE.length (by omega)).2; omega
          have Hmq := Lib.hid (show ∀ W, Calls Try.prog 10 #[.int .i64 xa, .int .i64 EE.length] W fun e w' => e = .returned (.int .i64 (ma : Nat)) ∧ w' = W from fun W => by
            refine (mod_any xa EE.length W (by omega) (by omega)).mono ?_
            rintro e w' ⟨rfl, rfl⟩
            exact ⟨by rw [hma], rfl⟩)
          obtain ⟨ge, oe, hea, hge, u, e0, hu0⟩ := HE.out.at ma hma3 []
          obtain ⟨E, hEm⟩ : ∃ E, EE.getD ma [] = E := ⟨_, rfl⟩
          have hFE : Fits E := HF.out E (by rw [← hEm, List.getD_eq_getElem?_getD, List.getElem?_eq_getElem hma3]; simp)
          rw [hEm] at hu0
          rw [Nat.mul_one] at e0
          have HFE := Lib.hid hFE
          have e1 := (hcw.cell (lt_of_cell e0) (by simp)).trans e0
          have Hu0 := Lib.hid hu0
          obtain ⟨ua, uc, hux, _, _⟩ := hu0.shape
          subst hux hea
          have hmi : (ma : Int) < EE.length := by omega
          obtain ⟨b0, b1, b2, _, _, _⟩ := three Hbk.out
          have Huk := Lib.hid (hu0.same hcw)
          have hver0 : 0 ≤ ver := by have := HIk.out.hm.2.2; omega
          have hverb : ver ≤ 9223372036854775807 := by have := HIk.out.hm.2.2; omega
          have Hcw := Lib.hid hcw
          clear hma hEm hFE e0 hu0 hcw
          go_cut [22] (fun hh wx => ((hh = .int .i64 0 ∧ KuI w wx (X ++ [nb]) rb (ver + 1) (applyT T E) (hist ++ [E]) bo vo To m) ∨ ∃ z : Int, z ≠ 0 ∧ hh = .int .i64 z ∧ KuI w wx (X ++ [nb]) rb ver T hist bo vo To m) ∧ wx.heap[nb]? = some (.cells #[.string ⟨#[100]⟩, .int .i64 ver, .string T] 30 (0, 0)))
          case first =>
            by_cases hdn : docNext ver T E = 0
            · go_region_law (first
                | (rw [if_pos (by simp [Region.wanted])]; go_simp; go_at_call 10; refine (Hmq.out _).mono ?_; rintro e wz ⟨rfl, rfl⟩)
                | (rw [if_pos (by simp [Region.wanted])]; go_simp; go_at_call 12; refine (rm_edit_ok (HIk.out.room.same ((Chg.refl [] wk).drew)) (fun k => k < w.heap.size) (fun k hk => Or.inl hk) 0 _ E (by decide) (by decide) (Huk.out.same ((Chg.refl [] wk).drew)) HFE.out (docNext_short hdn).1 hver0 hdn (by have := Hhl.out; omega) (by decide)).mono ?_; rintro e w4 ⟨uv, rfl, hups, h4, hx4, -⟩; have HI4 := Lib.hid ((HIk.out.same ((Chg.refl [] wk).drew)).edit h4 hx4 hdn HFE.out); have Hb4 := Lib.hid ((hx4 nb (by simp)).trans Hbk.out); clear hups h4 hx4))
              all_goals
                try simp only [List.getElem_toArray, List.getElem_cons_zero, List.getElem_cons_succ]
                go_wp2_with fail
                go_meet
                exact ⟨Or.inl ⟨rfl, HI4.out⟩, Hb4.out⟩
            · have hno := rm_edit_no (HIk.out.room.same ((Chg.refl [] wk).drew)) (fun k => k < w.heap.size) 0 _ E (by decide) (by decide) (Huk.out.same ((Chg.refl [] wk).drew)) HFE.out ⟨hver0, hverb⟩ hdn
              obtain ⟨z, hz⟩ : ∃ z, docNext ver T E = z := ⟨_, rfl⟩
              rw [hz] at hdn hno
              have Hno := Lib.hid hno
              have Hdn := Lib.hid hdn
              clear hno hz hdn
              go_region_law (first
                | (rw [if_pos (by simp [Region.wanted])]; go_simp; go_at_call 10; refine (Hmq.out _).mono ?_; rintro e wz ⟨rfl, rfl⟩)
                | (rw [if_pos (by simp [Region.wanted])]; go_simp; go_at_call 12; refine Hno.out.mono ?_; rintro e w4 ⟨rfl, c4⟩; have c4' : Chg [] wk w4 := ((Chg.refl [] wk).drew).trans c4; have HI4 := Lib.hid (HIk.out.same c4'); have Hb4 := Lib.hid ((c4'.block nb (lt_of_obj Hbk.out) (by simp)).trans Hbk.out); clear c4 c4'))
              all_goals
                try simp only [List.getElem_toArray, List.getElem_cons_zero, List.getElem_cons_succ]
                go_wp2_with fail
                go_meet
                exact ⟨Or.inr ⟨z, Hdn.out, rfl, HI4.out⟩, Hb4.out⟩
          case rest =>
            obtain ⟨hcase, hbc⟩ := hcut
            rcases hcase with ⟨rfl, hIc⟩ | ⟨z, hz, rfl, hIc⟩
            · have HIc := Lib.hid hIc
              have Hbc := Lib.hid hbc
              clear hIc hbc
              have hcw := HIc.out.room.chg
              have p2 := (hcw.cell (p := ⟨g, off + i * 3 + 2, none⟩) hg (by simp)).trans r2
              obtain ⟨mb, hmb⟩ := Int.eq_ofNat_of_zero_le (modI_bd xb EE.length (by omega)).1
              have hmb3 : mb < EE.length := by have := (modI_bd xb EE.length (by omega)).2; omega
              have Hmq2 := Lib.hid (show ∀ W, Calls Try.prog 10 #[.int .i64 xb, .int .i64 EE.length] W fun e w' => e = .returned (.int .i64 (mb : Nat)) ∧ w' = W from fun W => by
                refine (mod_any xb EE.length W (by omega) (by omega)).mono ?_
                rintro e w' ⟨rfl, rfl⟩
                exact ⟨by rw [hmb], rfl⟩)
              obtain ⟨ge2, oe2, hea2, hge2, u2, e2, hu2⟩ := HE.out.at mb hmb3 []
              simp only [Option.some.injEq, Addr.mk.injEq, and_true] at hea2
              obtain ⟨rfl, rfl⟩ := hea2
              rw [Nat.mul_one] at e2
              have e3 := (hcw.cell (lt_of_cell e2) (by simp)).trans e2
              obtain ⟨ub, ubc, hux2, _, _⟩ := hu2.shape
              subst hux2
              have hmbi : (mb : Int) < EE.length := by omega
              obtain ⟨b0, b1, b2, _, _, _⟩ := three Hbc.out
              have hne1 : ver ≠ ver + 1 := by omega
              obtain ⟨wj, hwj⟩ : ∃ x, x = wc := ⟨_, rfl⟩
              clear hmb e2 hu2 hcw p1 e1
              go_upto_region 23 with (fail)
              go_cut [24] (fun hh wx => hh = .int .i64 11 ∧ KuI w wx (X ++ [nb]) rb (ver + 1) (applyT T E) (hist ++ [E]) bo vo To m)
              case first =>
                go_region_law (first
                  | (rw [if_pos (by simp [Region.wanted])]; go_simp; go_at_call 10; refine (Hmq2.out _).mono ?_; rintro e wz ⟨rfl, rfl⟩)
                  | (rw [if_pos (by simp [Region.wanted])]; go_simp; go_at_call 12; refine (rm_edit_stale (HIc.out.room.same ((Chg.refl [] _).drew)) 1 ver _ (by decide) (by decide) hne1).mono ?_; rintro e w4 ⟨rfl, c4⟩; have HI4 := Lib.hid (HIc.out.same (((Chg.refl [] _).drew).trans c4)); clear c4))
                all_goals
                  try simp only [List.getElem_toArray, List.getElem_cons_zero, List.getElem_cons_succ]
                  go_wp2_with fail
                  go_meet
                  exact ⟨rfl, HI4.out⟩
              case rest =>
                obtain ⟨rfl, hIe⟩ := hcut
                have HIe := Lib.hid hIe
                clear hIe
                go_wp2_with fail
                exact ⟨⟨i + 1, ver + 1, applyT T E, hist ++ [E], _, _, _, _, _, by omega, by go_num, rfl, by have := Hhl.out; simp; omega, HIe.out⟩, by simp [intOf]; omega⟩
            · have hzb : (z == 0) = false := by simpa using hz
              have HIc := Lib.hid hIc
              clear hIc
              go_wp2_with fail
              exact ⟨⟨i + 1, ver, T, hist, _, _, _, _, _, by omega, by go_num, rfl, by have := Hhl.out; omega, HIc.out⟩, by simp [intOf]; omega⟩
    · obtain rfl : i = sn := by omega
      have hi1 : ¬ ((i : Int) < i) := by omega
      go_wp2_with fail
      refine (rm_document HI.out.room).mono ?_
      rintro e wd ⟨rfl, cd⟩
      have hIk := (HI.out.same cd).box (.cells #[.string ⟨#[100]⟩, .int .i64 ver, .string T] 30 (0, 0))
      have hbk := heap_at wd (.cells #[.string ⟨#[100]⟩, .int .i64 ver, .string T] 30 (0, 0)) _ rfl
      obtain ⟨wk, hwk⟩ : ∃ x, x = wd.alloc (.cells #[.string ⟨#[100]⟩, .int .i64 ver, .string T] 30 (0, 0)) := ⟨_, rfl⟩
      have Hwk := Lib.hid hwk
      rw [← hwk] at hIk hbk
      obtain ⟨nb, hnb⟩ : ∃ n, n = wd.heap.size := ⟨_, rfl⟩
      have Hnb := Lib.hid hnb
      rw [← hnb] at hIk hbk
      have HIk := Lib.hid hIk
      have Hbk := Lib.hid hbk
      have hfv := fun W => docVer2 ⟨#[100]⟩ To vo W
      clear cd hIk hbk hwk hnb
      go_wp2_with fail
      rw [← Hwk.out, ← Hnb.out]
      refine (repDocument_any _ bo ⟨#[100]⟩ vo To HIk.out.rep).mono ?_
      rintro e w8 ⟨rfl, c8⟩
      have HI8 := Lib.hid (HIk.out.same c8)
      have Hb8 := Lib.hid ((c8.block nb (lt_of_obj Hbk.out) (by simp)).trans Hbk.out)
      clear c8
      go_wp2_with fail
      refine (HI8.out.since (by have := Hhl.out; omega)).mono ?_
      rintro e w9 ⟨lv, rfl, hls, c9⟩
      have HI9 := Lib.hid (HI8.out.same c9)
      have Hb9 := Lib.hid ((c9.block nb (lt_of_obj Hb8.out) (by simp)).trans Hb8.out)
      obtain ⟨al, cpl, hlv, _, _⟩ := hls.shape
      subst hlv
      have hln : (hist.drop m).length = hist.length - m := List.length_drop
      rw [hln] at hls ⊢
      have Hls := Lib.hid hls
      obtain ⟨m1, m2, m3⟩ := HI9.out.hm
      have hvo0 : 0 ≤ vo := by omega
      have hq1 : ver - vo = ((hist.length - m : Nat) : Int) := by omega
      have hq2 : (((hist.length - m : Nat) : Int) == ((hist.length - m : Nat) : Int)) = true := by simp
      have hq3 : IntKind.i64.wrap ((hist.length - m : Nat) : Int) = ((hist.length - m : Nat) : Int) := IntWalk.i64_in _ (by have := Hhl.out; omega)
      have hq4 : wrap64 ((hist.length - m : Nat) : Int) = ((hist.length - m : Nat) : Int) := by have := Hhl.out; unfold wrap64; omega
      have hb9 := Hb9.out
      obtain ⟨b0, b1, b2, _, _, _⟩ := three hb9
      have Hfit := Lib.hid (show ∀ E ∈ hist.drop m, Fits E from fun E hE => (HI9.out.fits E (List.mem_of_mem_drop hE)).1)
      have hlb := lt_of_obj hb9
      have hne : nb ≠ bo := by
        intro e
        have h1 := HI9.out.rep
        unfold RepAt at h1
        rw [← e, hb9] at h1
        simp at h1
      have Hne := Lib.hid hne
      clear c9 hls hln m1 m2 m3 hb9 hne
      go_wp2_with fail
      go_region_held3 (fun w' => w'.cell? ⟨nb, 0, none⟩ = some (.string ⟨#[100]⟩) ∧ w'.cell? ⟨nb, 1, none⟩ = some (.int .i64 ver) ∧ w'.cell? ⟨nb, 2, none⟩ = some (.string T))
        (first | (go_keep; done) | (exact ⟨a0, a1, a2⟩) | (exact ⟨d0, d1, d2⟩) | (exact ⟨f0, f1, f2⟩) | (exact ⟨l0, l1, l2⟩))
        (first
          | (go_at_call 5; refine (syncExample_any _).mono ?_; rintro e wA ⟨rfl, cA'⟩; have cA : Chg [] w9 wA := ((Chg.refl [] w9).drew).trans cA'; have a0 := (cA.cell hlb (by simp)).trans b0; have a1 := (cA.cell (p := ⟨nb, 1, none⟩) hlb (by simp)).trans b1; have a2 := (cA.cell (p := ⟨nb, 2, none⟩) hlb (by simp)).trans b2; have hla := lt_of_cell a0; have HIA := Lib.hid (HI9.out.same cA); have HLA := Lib.hid (Hls.out.same cA); clear cA cA')
          | (go_at_call 11; have hRA : RepAt wA bo ⟨#[100]⟩ vo To := HIA.out.rep; with_reducible refine (repDocument_any wA bo ⟨#[100]⟩ vo To hRA).mono ?_; clear hRA; rintro e wB ⟨rfl, cB⟩; have d0 := (cB.cell hla (by simp)).trans a0; have d1 := (cB.cell (p := ⟨nb, 1, none⟩) hla (by simp)).trans a1; have d2 := (cB.cell (p := ⟨nb, 2, none⟩) hla (by simp)).trans a2; have hld := lt_of_cell d0; have HIB := Lib.hid (HIA.out.same cB); have HLB := Lib.hid (HLA.out.same cB); clear cB)
          | (go_at_call 13; refine (catchUp_any _ wB bo ⟨#[100]⟩ vo To _ (hist.drop m) HIB.out.rep HLB.out Hfit.out hvo0 HIB.out.ok).mono ?_; rintro e wC ⟨rfl, hrC, hcC⟩; rw [HIB.out.st] at hrC; have f0 := (hcC.cell hld Hne.out).trans d0; have f1 := (hcC.cell (p := ⟨nb, 1, none⟩) hld Hne.out).trans d1; have f2 := (hcC.cell (p := ⟨nb, 2, none⟩) hld Hne.out).trans d2; have HrC := Lib.hid hrC; have HcC := Lib.hid (chgP_new HIB.out.room.chg.p hcC (fun k hk => by have := HIB.out.inX.2; omega)); have hlf := lt_of_cell f0; clear hrC hcC)
          | (go_at_call 11; with_reducible refine (repDocument_any wC bo ⟨#[100]⟩ ver T HrC.out).mono ?_; rintro e wD ⟨rfl, cD⟩; have l0 := (cD.cell hlf (by simp)).trans f0; have l1 := (cD.cell (p := ⟨nb, 1, none⟩) hlf (by simp)).trans f1; have l2 := (cD.cell (p := ⟨nb, 2, none⟩) hlf (by simp)).trans f2; have HcD := Lib.hid (HcC.out.trans cD); clear cD))
      all_goals
        try simp only [List.getElem_toArray, List.getElem_cons_zero, List.getElem_cons_succ]
        go_wp2_with fail
        go_ret
        exact ⟨rfl, HcD.out⟩
end Go.Proofs.Ytihpcpcfccamoaa
