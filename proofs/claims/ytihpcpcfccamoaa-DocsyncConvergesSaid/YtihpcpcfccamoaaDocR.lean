/- DocsyncConverges: the walk. -/
import Derived.Test.YtihpcpcfccamoaaDocQ
import Derived.Deep.DeepCutAuto
namespace Go.Proofs.Ytihpcpcfccamoaa
open Go Go.BigFrame Go.RowKit
set_option linter.unusedVariables false
set_option linter.unusedSimpArgs false
theorem Try.infoP : (Try.prog.info? 36).map (fun i => (i.zero, i.size, i.bytes)) = some (some (.pointer none), 1, 8) := by kernel_rfl
theorem docVer (a c : ByteArray) (b : Int) (W : World) : (Instr.field 30 (.agg #[.string a, .int .i64 b, .string c]) 1).run Try.prog W = .ok (.int .i64 b) W := by kernel_rfl
set_option maxRecDepth 100000 in
set_option maxHeartbeats 8000000 in
theorem converges_any (w : World) (text : ByteArray) (sv ev : Value) (S : List I3) (EE : List (List Edit)) (htx : text.size ≤ 9223372036854775807) (hS : I3s (fun k => k < w.heap.size) w sv S) (hE : Edss (fun k => k < w.heap.size) w ev EE) (hF : ∀ E ∈ EE, Fits E) :
    Calls Try.prog 3 #[.string text, sv, ev] w fun e w' => e = .returned (.bool true) ∧ Chg [] w w' := by
  obtain ⟨i0, hi, hz0, hz1, hz2⟩ := info_parts Try.infoP
  have Hi0 := Lib.hid hi
  have Hz0 := Lib.hid hz0
  have Hz1 := Lib.hid hz1
  have Hz2 := Lib.hid hz2
  clear hi hz0 hz1 hz2
  have HS := Lib.hid hS
  have HE := Lib.hid hE
  have HF := Lib.hid hF
  obtain ⟨sa, sc, rfl, hsl, hsc⟩ := hS.shape
  obtain ⟨ea, ec, rfl, hel, hec⟩ := hE.shape
  unfold maxLen at hsl hel
  obtain ⟨tn, htn⟩ : ∃ tn : Nat, min (text.size : Int) 200 = tn := ⟨(min (text.size : Int) 200).toNat, by omega⟩
  have htl : tn ≤ text.size := by omega
  have ht2 : tn ≤ 200 := by omega
  have htl' : (tn : Int) ≤ text.size := by omega
  obtain ⟨T0, hT0⟩ : ∃ T0, text.extract 0 tn = T0 := ⟨_, rfl⟩
  have hT0s : T0.size ≤ 2000 := by rw [← hT0, ByteArray.size_extract]; omega
  obtain ⟨sn, hsn⟩ : ∃ sn : Nat, min (S.length : Int) 15 = sn := ⟨(min (S.length : Int) 15).toNat, by omega⟩
  have hs1 : sn ≤ S.length := by omega
  have hs2 : sn ≤ 15 := by omega
  have hs3 : (sn : Int) ≤ sc := by omega
  have Hsn := Lib.hid hsn
  clear hS hE hF hsn
  go_enter Try.func3, Try.ntmps3
  go_wp2_with fail
  refine (syncExample_any _).mono ?_
  rintro e w1 ⟨rfl, c1⟩
  have C1 := Lib.hid c1
  clear c1
  go_wp2_with fail
  refine (rm_new w _ (C1.out.alloc _) w1.heap.size T0 0 30 (heap_at _ _ _ rfl) hT0s (by decide) (by decide)).mono ?_
  rintro e w2 ⟨rb, rfl, h2⟩
  have H2 := Lib.hid h2
  clear h2 htn hT0
  go_wp2_with fail
  go_loopw [9, 43] (fun vv jj wr => ∃ (k : Nat) (Q X : List Nat), k ≤ 3 ∧ jj = .int .i64 (k : Nat) ∧ Q.length = k ∧ CvI w wr X vv Q rb (irange k) 0 T0 [] (irange k) ∧ ∀ b ∈ Q, RepAt wr b dNm 0 T0) (fun _ jj _ => 3 - (intOf jj).toNat)
  case atStart => exact ⟨0, [], [], by omega, rfl, rfl, ⟨H2.out, by simp, by simp [Value.ownBlock], by simp, World.ownsRow_nil _ _ _ _⟩, by simp⟩
  case round =>
    obtain ⟨k, Q, X, hk, rfl, hql, hI, hR⟩ := hrel
    have HI := Lib.hid hI
    have HR := Lib.hid hR
    have Hql := Lib.hid hql
    obtain ⟨q1, q2, q3, q4⟩ := irange_facts k hk
    by_cases hlt : k < 3
    · have hk1 : (k : Int) < 3 := by omega
      have Q1 := Lib.hid q1
      have Q2 := Lib.hid q2
      have Q3 := Lib.hid q3
      have Q4 := Lib.hid q4
      clear hI hR hql q1 q2 q3 q4
      go_wp2_with fail
      refine (rm_join HI.out.room k (by omega) (by omega) Q1.out (by rw [Q4.out]; omega)).mono ?_
      rintro e w4 ⟨rfl, h4, hx4⟩
      have HI4 := Lib.hid (HI.out.step h4 hx4)
      have HR4 := Lib.hid (show ∀ b ∈ Q, RepAt w4 b dNm 0 T0 from fun b hb => (hx4 b (HI.out.inX b hb).1).trans (HR.out b hb))
      clear h4 hx4
      go_wp2_with fail
      refine (rm_open HI4.out.room k (by simp) Q2.out Q3.out (by rw [Q4.out]; omega)).mono ?_
      rintro e w5 ⟨rfl, h5, hx5⟩
      have HI5 := Lib.hid (HI4.out.step h5 hx5)
      have HR5 := Lib.hid (show ∀ b ∈ Q, RepAt w5 b dNm 0 T0 from fun b hb => (hx5 b (HI4.out.inX b hb).1).trans (HR4.out b hb))
      clear h5 hx5
      obtain ⟨va, vc, hvv, hvc, _⟩ := HI5.out.at
      subst hvv
      go_wp2_with fail
      refine (newReplica_any _ dNm 0 T0).mono ?_
      rintro e w6 ⟨b, rfl, hb, hbl, c6⟩
      have C6 := Lib.hid (((Chg.refl [] w5).alloc (.cells #[.string ⟨#[100]⟩, .int .i64 0, .string T0] 30 (0, 0))).trans c6)
      have Hb := Lib.hid hb
      have hbl2 : w5.heap.size ≤ b := by simp at hbl; omega
      have hzw : w.heap.size ≤ w6.heap.size := by have := HI5.out.room.chg.size; have := C6.out.size; omega
      clear hb c6 hbl
      go_wp2_with (at_builtin; refine wpList_append_lies _ (by rfl) _ _ 32 (by rfl) w.heap.size 36 i0 (.pointer none) 1 8 Try.underlying32 Hi0.out Hz0.out Hz1.out Hz2.out rfl (by decide) (.slice va Q.length vc) Q.length (ptrs Q) (by rfl) ((HI5.out.same C6.out).row.alloc _) ⟨w6.heap.size, 0, none⟩ 1 1 [.pointer (some ⟨b, 0, none⟩)] (by rfl) (by rfl) (World.news_of_block (cs := #[.pointer (some ⟨b, 0, none⟩)]) (t := 36) (fr := (0, 0)) (heap_alloc_new w6 _)) (by simp [Value.oneCell']) (by omega) (by have := Hql.out; unfold maxLen; omega) (by have := Hql.out; omega) (by simp; omega) (w6.heap.size + 1) (by simp) ?_; intro gg cap4 w7 hown7 hgrow7 hat7 hlt7)
      have hc7 : ChgP (fun k => Value.ownBlock (.slice va Q.length vc) = some k) w6 w7 := ((ChgP.refl _ w6).alloc _).grown hgrow7 (fun k hk => Or.inl hk)
      obtain ⟨X', hI7⟩ := HI5.out.push (b := b) C6.out ⟨hbl2, lt_of_obj Hb.out⟩ hc7 hown7 (fun k hk => by
        simp only [Value.ownBlock, Option.some.injEq] at hk
        subst hk
        exact hat7.imp id (fun e => by omega))
      refine ⟨⟨k + 1, Q ++ [b], X', by omega, by go_num, by simp [Hql.out], ?_, ?_⟩, by simp [intOf]; omega⟩
      · rw [irange_succ]; exact hI7
      · intro x hx
        rcases List.mem_append.1 hx with hx | hx
        · exact ((HR5.out x hx).kept (S := fun _ => False) C6.out.p (fun h => h)).kept hc7 (HI5.out.inX x hx).2.2
        · rw [List.mem_singleton.1 hx]
          exact Hb.out.kept hc7 (fun e => by have := (HI5.out.row.lt b e).2; omega)
    · obtain rfl : k = 3 := by omega
      clear hI hR q1 q2 q3 q4
      have hsn := Hsn.out
      obtain ⟨va, vc, hvv, hvc, hvat⟩ := HI.out.at
      rw [Hql.out] at hvv hvc hvat
      subst hvv
      obtain ⟨gv, rfl, _⟩ := hvat 0 (by omega)
      have hvc' : (3 : Int) ≤ vc := by omega
      clear hvat
      go_wp2_with fail
      clear hsn
      go_loopw [70] (fun jj wr => ∃ (j : Nat) (ver : Int) (T : ByteArray) (hist : List (List Edit)) (X : List Nat), j ≤ sn ∧ jj = .int .i64 (j : Nat) ∧ ver = hist.length ∧ hist.length ≤ j ∧ CvI w wr X (.slice (some ⟨gv, 0, none⟩) 3 vc) Q rb (irange 3) ver T hist (irange 3) ∧ ∀ b ∈ Q, RepAt wr b dNm ver T) (fun jj _ => sn - (intOf jj).toNat)
      case atStart => exact ⟨0, 0, T0, [], X, by omega, rfl, rfl, by simp, HI.out, HR.out⟩
      case round =>
        obtain ⟨j, ver, T, hist, X, hj, rfl, hver, hhj, hI, hR⟩ := hrel
        have HI := Lib.hid hI
        have HR := Lib.hid hR
        have Hver := Lib.hid hver
        clear hI hR hver
        by_cases hlt : j < sn
        · have hj1 : (j : Int) < sn := by omega
          obtain ⟨g, off, rfl, hg, r0, r1, r2⟩ := HS.out.at j (by omega) (0, 0, 0)
          obtain ⟨x, hx⟩ : ∃ x, S.getD j (0, 0, 0) = x := ⟨_, rfl⟩
          obtain ⟨xd, xa, xb⟩ := x
          rw [hx] at r0 r1 r2
          simp only at hg r0 r1 r2
          have hcw := HI.out.room.chg
          have p0 := (hcw.cell hg (by simp)).trans r0
          have p1 := (hcw.cell (p := ⟨g, off + j * 3 + 1, none⟩) hg (by simp)).trans r1
          have p2 := (hcw.cell (p := ⟨g, off + j * 3 + 2, none⟩) hg (by simp)).trans r2
          clear r0 r1 r2 hx
          by_cases he : EE.length = 0
          · have he1 : (EE.length : Int) = 0 := by omega
            clear hcw
            go_wp2_with fail
            have HIa := Lib.hid (HI.out.same ((Chg.refl [] wr).alloc (.cells #[.int .i64 xd, .int .i64 xa, .int .i64 xb] 39 (0, 0))))
            have HRa := Lib.hid (show ∀ b ∈ Q, RepAt (wr.alloc (.cells #[.int .i64 xd, .int .i64 xa, .int .i64 xb] 39 (0, 0))) b dNm ver T from fun b hb => (HR.out b hb).kept (S := fun _ => False) ((Chg.refl [] wr).alloc _).p (fun h => h))
            refine (rm_document HIa.out.room).mono ?_
            rintro e wd1 ⟨rfl, cd1⟩
            have hIt := HIa.out.same (cd1.alloc (.cells #[.string ⟨#[100]⟩, .int .i64 ver, .string T] 30 (0, 0)))
            have hRt : ∀ b ∈ Q, RepAt (wd1.alloc (.cells #[.string ⟨#[100]⟩, .int .i64 ver, .string T] 30 (0, 0))) b dNm ver T := fun b hb => (HRa.out b hb).kept (S := fun _ => False) (cd1.alloc _).p (fun h => h)
            have hbt := heap_at wd1 (.cells #[.string ⟨#[100]⟩, .int .i64 ver, .string T] 30 (0, 0)) _ rfl
            obtain ⟨wt, hwt⟩ : ∃ x, x = wd1.alloc (.cells #[.string ⟨#[100]⟩, .int .i64 ver, .string T] 30 (0, 0)) := ⟨_, rfl⟩
            have Hwt := Lib.hid hwt
            rw [← hwt] at hIt hRt hbt
            have HIt := Lib.hid hIt
            have HRt := Lib.hid hRt
            have Hbt := Lib.hid hbt
            clear hIt hRt hbt hwt cd1
            go_wp2_with fail
            rw [← Hwt.out]
            go_loopw [154] (fun jj wx => ∃ k : Nat, k ≤ 3 ∧ jj = .int .i64 (k : Nat) ∧ Chg [] wt wx) (fun jj _ => 3 - (intOf jj).toNat)
            case atStart => exact ⟨0, by omega, rfl, Chg.refl _ _⟩
            case round =>
              obtain ⟨k, hk, rfl, hc⟩ := hrel
              have Hc := Lib.hid hc
              clear hc
              by_cases hlt3 : k < 3
              · have hk1 : (k : Int) < 3 := by omega
                obtain ⟨_, _, hvv, _, hvat⟩ := (HIt.out.same Hc.out).at
                obtain ⟨g0, hg0, hcell⟩ := hvat k (by rw [Hql.out]; exact hlt3)
                rw [Hql.out] at hvv
                simp only [Value.slice.injEq] at hvv
                obtain ⟨hvv, -, -⟩ := hvv
                rw [hg0] at hvv
                simp only [Option.some.injEq, Addr.mk.injEq, and_true] at hvv
                subst hvv
                have hbm : Q.getD k 0 ∈ Q := by rw [List.getD_eq_getElem?_getD, List.getElem?_eq_getElem (by rw [Hql.out]; exact hlt3)]; simp
                obtain ⟨b, hb⟩ : ∃ b, Q.getD k 0 = b := ⟨_, rfl⟩
                rw [hb] at hcell hbm
                have hrb := (HRt.out b hbm).kept (S := fun _ => False) Hc.out.p (fun h => h)
                obtain ⟨y0, y1, y2, _, _, _⟩ := three ((Hc.out.block _ (lt_of_obj Hbt.out) (by simp)).trans Hbt.out)
                have ly := lt_of_cell y0
                have Hrb := Lib.hid hrb
                have hneq := fun W => doc_neq ⟨#[100]⟩ ver T W
                clear hvat hg0 hb hbm hrb
                go_wp2_with fail
                go_region_law (rw [if_pos (by simp [Region.wanted])]; go_simp; refine (repDocument_any _ b ⟨#[100]⟩ ver T (Hrb.out.kept (S := fun _ => False) ((Chg.refl [] wr).drew).p (fun h => h))).mono ?_; rintro e wz ⟨rfl, cz⟩; have hcz : Chg [] wr wz := ((Chg.refl [] wr).drew).trans cz; have z0 := (hcz.cell ly (by simp)).trans y0; have z1 := (hcz.cell (p := ⟨wd1.heap.size, 1, none⟩) ly (by simp)).trans y1; have z2 := (hcz.cell (p := ⟨wd1.heap.size, 2, none⟩) ly (by simp)).trans y2; have Hcz := Lib.hid hcz; clear cz hcz)
                all_goals
                  go_wp2_with fail
                  exact ⟨⟨k + 1, by omega, by go_num, Hc.out.trans Hcz.out⟩, by simp [intOf]; omega⟩
              · obtain rfl : k = 3 := by omega
                go_wp2_with fail
                refine (syncExample_any _).mono ?_
                rintro e wf ⟨rfl, cf⟩
                go_wp2_with fail
                go_ret
                exact ⟨rfl, HIt.out.room.chg.trans (Hc.out.trans cf)⟩
          · have he1 : ¬ (EE.length : Int) = 0 := by omega
            have Hcw := Lib.hid hcw
            clear hcw
            go_upto_region 21 with (fail)
            obtain ⟨c, hc⟩ := Int.eq_ofNat_of_zero_le (modI_bd xa 3 (by omega)).1
            have hc3 : c < 3 := by have := (modI_bd xa 3 (by omega)).2; omega
            have hmq : ∀ W, Calls Try.prog 10 #[.int .i64 xa, .int .i64 3] W fun e w' => e = .returned (.int .i64 (c : Nat)) ∧ w' = W := fun W => by
              refine (mod_any xa 3 W (by omega) (by omega)).mono ?_
              rintro e w' ⟨rfl, rfl⟩
              exact ⟨by rw [hc], rfl⟩
            have Hmq := Lib.hid hmq
            clear hc hmq
            obtain ⟨wa, hwa⟩ : ∃ x, x = wr.alloc (.cells #[.int .i64 xd, .int .i64 xa, .int .i64 xb] 39 (0, 0)) := ⟨_, rfl⟩
            have hcd : Chg [] wr wa := by rw [hwa]; exact (Chg.refl _ _).alloc _
            have hbk : wa.heap[wr.heap.size]? = some (.cells #[.int .i64 xd, .int .i64 xa, .int .i64 xb] 39 (0, 0)) := by rw [hwa]; exact heap_at _ _ _ rfl
            rw [← hwa]
            obtain ⟨d0, d1, d2, _, _, _⟩ := three hbk
            have HId := Lib.hid (HI.out.same hcd)
            have HRd := Lib.hid (show ∀ b ∈ Q, RepAt wa b dNm ver T from fun b hb => (HR.out b hb).kept (S := fun _ => False) hcd.p (fun h => h))
            have Hbk := Lib.hid hbk
            clear hwa hcd hbk
            obtain ⟨_, _, hvv, _, hvat⟩ := HId.out.at
            obtain ⟨g0, hg0, hcell⟩ := hvat c (by rw [Hql.out]; exact hc3)
            rw [Hql.out] at hvv
            simp only [Value.slice.injEq] at hvv
            obtain ⟨hvv, -, -⟩ := hvv
            rw [hg0] at hvv
            simp only [Option.some.injEq, Addr.mk.injEq, and_true] at hvv
            subst hvv
            have hbm : Q.getD c 0 ∈ Q := by rw [List.getD_eq_getElem?_getD, List.getElem?_eq_getElem (by rw [Hql.out]; exact hc3)]; simp
            obtain ⟨b, hb⟩ : ∃ b, Q.getD c 0 = b := ⟨_, rfl⟩
            rw [hb] at hcell hbm
            have Hb := Lib.hid hb
            have hci : (c : Int) < 3 := by omega
            have hfv := fun W => docVer ⟨#[100]⟩ T ver W
            have Hbm := Lib.hid hbm
            clear hvat hg0 hb hbm
            go_cut [15, 16] (fun cc vv wx => (cc = .int .i64 (c : Nat) ∧ vv = .int .i64 ver) ∧ Chg [] wa wx)
            case first =>
              go_region_law (first
                | (rw [if_pos (by simp [Region.wanted])]; go_simp; go_at_call 10; refine (Hmq.out _).mono ?_; rintro e wz ⟨rfl, rfl⟩)
                | (rw [if_pos (by simp [Region.wanted])]; go_simp; go_at_call 11; refine (repDocument_any _ b ⟨#[100]⟩ ver T ((HRd.out b Hbm.out).kept (S := fun _ => False) ((Chg.refl [] wa).drew).p (fun h => h))).mono ?_; rintro e w3 ⟨rfl, c3'⟩; have c3 : Chg [] wa w3 := ((Chg.refl [] wa).drew).trans c3'; clear c3'))
              all_goals
                simp only [List.getElem_toArray, List.getElem_cons_zero, List.getElem_cons_succ]
                go_wp2_with fail
                go_meet
                exact ⟨⟨rfl, rfl⟩, c3⟩
            case rest =>
             obtain ⟨⟨rfl, rfl⟩, c3⟩ := hcut
             have HI3 := Lib.hid (HId.out.same c3)
             have HR3 := Lib.hid (show ∀ b ∈ Q, RepAt wc b dNm ver T from fun b hb => (HRd.out b hb).kept (S := fun _ => False) c3.p (fun h => h))
             have f0 := (c3.cell (lt_of_cell d0) (by simp)).trans d0
             have f1 := (c3.cell (p := ⟨wr.heap.size, 1, none⟩) (lt_of_cell d1) (by simp)).trans d1
             have f2 := (c3.cell (p := ⟨wr.heap.size, 2, none⟩) (lt_of_cell d2) (by simp)).trans d2
             clear c3 d0 d1 d2 hcell
             obtain ⟨m, hm⟩ := Int.eq_ofNat_of_zero_le (modI_bd xb EE.length (by omega)).1
             have hm3 : m < EE.length := by have := (modI_bd xb EE.length (by omega)).2; omega
             have Hm := Lib.hid hm
             clear hm
             obtain ⟨ge, oe, rfl, hge, u, e0, hu0⟩ := HE.out.at m hm3 []
             obtain ⟨E, hEm⟩ : ∃ E, EE.getD m [] = E := ⟨_, rfl⟩
             have hFE : Fits E := HF.out E (by rw [← hEm, List.getD_eq_getElem?_getD, List.getElem?_eq_getElem hm3]; simp)
             rw [hEm] at hu0
             rw [Nat.mul_one] at e0
             have HFE := Lib.hid hFE
             have e1 := (HI3.out.room.chg.cell (lt_of_cell e0) (by simp)).trans e0
             have Hu0 := Lib.hid hu0
             obtain ⟨ua, uc, rfl, _, _⟩ := hu0.shape
             have hmi : (m : Int) < EE.length := by omega
             have hel1 : (1 : Int) ≤ EE.length := by omega
             clear hEm hFE e0 hu0
             go_wp2_with fail
             refine (mod_any xb EE.length _ (by omega) (by omega)).mono ?_
             rintro e wc' ⟨rfl, rfl⟩
             rw [Hm.out]
             go_wp2_with fail
             have hcin : (c : Int) ∈ irange 3 := by rcases (by omega : c = 0 ∨ c = 1 ∨ c = 2) with rfl | rfl | rfl <;> decide
             have hver0 : 0 ≤ ver := by rw [Hver.out]; omega
             have hverb : ver ≤ 9223372036854775807 := by rw [Hver.out]; omega
             have Hu3 := Lib.hid (Hu0.out.same HI3.out.room.chg)
             clear f0 f1 f2 e1 hfv
             by_cases hdn : docNext ver T E = 0
             · refine (rm_edit_ok HI3.out.room (fun k => k < w.heap.size) (fun k hk => Or.inl hk) c _ E hcin hcin Hu3.out HFE.out (docNext_short hdn).1 hver0 hdn (by omega) (by decide)).mono ?_
               rintro e w4 ⟨uv, rfl, hups, h4, hx4, P4, hP4, hc4⟩
               obtain ⟨t0, t1, htos, g0, g1, gne, gc0, gc1⟩ := others c hc3
               rw [htos] at hups
               have HI4 := Lib.hid (HI3.out.step h4 hx4)
               have HR4 := Lib.hid (show ∀ b ∈ Q, RepAt w4 b dNm ver T from fun b hb => (hx4 b (HI3.out.inX b hb).1).trans (HR3.out b hb))
               have Hups := Lib.hid hups
               have Hwc := Lib.hid (show ∀ b ∈ Q, b < wc.heap.size from fun b hb => HI3.out.lts b (HI3.out.inX b hb).1)
               obtain ⟨au, cu, huv, hul, hum, _⟩ := hups
               subst huv
               have huc : (2 : Int) ≤ cu := by simp at hul; omega
               have hcell4 := HI4.out.cell Hql.out c hc3
               rw [Hb.out] at hcell4
               have Hg := Lib.hid (And.intro g0 (And.intro g1 (And.intro gne (And.intro gc0 gc1))))
               clear htos h4 hx4 hc4 hP4 hum hul g0 g1 gne gc0 gc1
               go_wp2_with fail
               refine (catchUp_one (fun k => k < w.heap.size) w4 _ b ⟨#[100]⟩ ver T _ E _ _ _ (HR4.out b Hbm.out) (Hu0.out.same HI4.out.room.chg) HFE.out hver0 hdn ((Chg.refl [] w4).alloc _) (heap_at _ _ _ rfl)).mono ?_
               rintro e w5 ⟨rfl, hr5, hc5⟩
               have HI5 := Lib.hid (HI4.out.rep Hbm.out hc5)
               have HU5 := Lib.hid (Hups.out.kept hc5 (fun k hk e => by have := Hwc.out b Hbm.out; omega))
               have HR5 := Lib.hid (show ∀ i, i < 3 → RepAt w5 (Q.getD i 0) dNm (if dn c t0 t1 i 0 then ver + 1 else ver) (if dn c t0 t1 i 0 then applyT T E else T) from fun i hi => by
                 rw [dn_none]
                 by_cases hic : i = c
                 · subst hic
                   rw [decide_eq_true rfl, if_pos rfl, if_pos rfl, Hb.out]
                   exact hr5
                 · rw [decide_eq_false hic, if_neg (by simp), if_neg (by simp)]
                   exact (HR4.out _ (getD_in (by rw [Hql.out]; exact hi))).kept hc5 (fun e => hic (getD_inj HI4.out.nodup (by rw [Hql.out]; exact hi) (by rw [Hql.out]; exact hc3) (e.trans Hb.out.symm))))
               clear hr5 hc5 hcell4
               go_wp2_with fail
               go_loopw [121] (fun jj wr => ∃ (k : Nat), k ≤ 2 ∧ jj = .int .i64 (k : Nat) ∧ CvI w wr X (.slice (some ⟨gv, 0, none⟩) 3 vc) Q rb (irange 3) (ver + 1) (applyT T E) (hist ++ [E]) (irange 3) ∧
                 Ups (fun k => wc.heap.size ≤ k ∧ k < w4.heap.size) dNm c (ver + 1) E wr (.slice au 2 cu) [(t0 : Int), (t1 : Int)] ∧ ∀ i, i < 3 → RepAt wr (Q.getD i 0) dNm (if dn c t0 t1 i k then ver + 1 else ver) (if dn c t0 t1 i k then applyT T E else T)) (fun jj _ => 2 - (intOf jj).toNat)
               case atStart => exact ⟨0, by omega, rfl, HI5.out, HU5.out, HR5.out⟩
               case round =>
                 obtain ⟨k, hk, rfl, hIk, hUk, hRk⟩ := hrel
                 have HIk := Lib.hid hIk
                 have HUk := Lib.hid hUk
                 have HRk := Lib.hid hRk
                 clear hIk hUk hRk
                 obtain ⟨g0, g1, gne, gc0, gc1⟩ := Hg.out
                 by_cases hk2 : k < 2
                 · have hk1 : (k : Int) < 2 := by omega
                   obtain ⟨t, htk, ht3, htc, hdt, hds⟩ := dn_step g0 g1 gne gc0 gc1 k hk2
                   obtain ⟨gu, ou, rfl, hgu, r0, r1, r2, r3, uu, r4, huu⟩ := HUk.out.at k (by simpa using hk2) 0
                   rw [htk] at r0
                   simp only at r1 r2 r3 r4
                   have hct := HIk.out.cell Hql.out t ht3
                   have hrt := HRk.out t ht3
                   rw [hdt, if_neg (by simp), if_neg (by simp)] at hrt
                   have hbt := getD_in (Q := Q) (i := t) (by rw [Hql.out]; exact ht3)
                   obtain ⟨bt, hbt'⟩ : ∃ bt, Q.getD t 0 = bt := ⟨_, rfl⟩
                   rw [hbt'] at hct hrt hbt
                   have Hrt := Lib.hid hrt
                   have Huu := Lib.hid huu
                   have Hbt := Lib.hid hbt
                   have Hbt' := Lib.hid hbt'
                   have Hds := Lib.hid hds
                   obtain ⟨ux, cx, hux, _, _⟩ := huu.shape
                   subst hux
                   have hti : (t : Int) < 3 := by omega
                   have htb : ((t : Int) == (c : Int)) = false := by simp; omega
                   have hlr := lt_of_cell r0
                   have Hgu := Lib.hid hgu
                   clear htk hdt hds hrt huu hbt hbt' hgu
                   go_upto_region 30 with (fail)
                   go_cut [146] (fun vv wx => vv = .bool false ∧ RepAt wx bt dNm (ver + 1) (applyT T E) ∧ ChgP (fun k => k = bt) wr wx)
                   case first =>
                     refine wp_region_readsQ 20 (by kernel_rfl) (by kernel_rfl) ?_
                     intro wd hwd
                     simp only [List.take_succ_cons, List.take_zero, List.drop_succ_cons, List.drop_zero]
                     have hcd : Chg [] wr wd := by rw [hwd]; exact (Chg.refl _ _).drew
                     have s0 := (hcd.cell hlr (by simp)).trans r0
                     have s1 := (hcd.cell (p := ⟨gu, ou + k * 5 + 1, none⟩) hlr (by simp)).trans r1
                     have s2 := (hcd.cell (p := ⟨gu, ou + k * 5 + 2, none⟩) hlr (by simp)).trans r2
                     have s3 := (hcd.cell (p := ⟨gu, ou + k * 5 + 3, none⟩) hlr (by simp)).trans r3
                     have s4 := (hcd.cell (p := ⟨gu, ou + k * 5 + 4, none⟩) hlr (by simp)).trans r4
                     have s5 := (hcd.cell (p := ⟨gv, t, none⟩) (lt_of_cell hct) (by simp)).trans hct
                     have Hcd := Lib.hid hcd
                     clear hwd hcd
                     repeat go_big_quiet_step (fail)
                     refine wpQuiet_nil ?_
                     go_wp2_with fail
                     refine (repApply_any (fun k => wc.heap.size ≤ k ∧ k < w4.heap.size) wd bt dNm ver T t c _ E (Hrt.out.kept (S := fun _ => False) Hcd.out.p (fun h => h)) (Huu.out.same Hcd.out) HFE.out hver0 hdn).mono ?_
                     rintro e wf ⟨rfl, hrf, hcf⟩
                     have Hrf := Lib.hid hrf
                     have Hcf := Lib.hid (Hcd.out.p.trans hcf)
                     clear hrf hcf
                     go_wp2_with fail
                     go_meet
                     exact ⟨rfl, Hrf.out, Hcf.out⟩
                   case rest =>
                     obtain ⟨rfl, hrf, hcf⟩ := hcut
                     have HIf := Lib.hid (HIk.out.rep Hbt.out hcf)
                     have HUf := Lib.hid (HUk.out.kept hcf (fun k hk e => by have := Hwc.out bt Hbt.out; omega))
                     have HRf := Lib.hid (show ∀ i, i < 3 → RepAt wc (Q.getD i 0) dNm (if dn c t0 t1 i (k + 1) then ver + 1 else ver) (if dn c t0 t1 i (k + 1) then applyT T E else T) from fun i hi => by
                       rw [Hds.out]
                       by_cases hit : i = t
                       · subst hit
                         rw [decide_eq_true rfl, Bool.or_true, if_pos rfl, if_pos rfl, Hbt'.out]
                         exact hrf
                       · rw [decide_eq_false hit, Bool.or_false]
                         exact (HRk.out i hi).kept hcf (fun e => hit (getD_inj HIk.out.nodup (by rw [Hql.out]; exact hi) (by rw [Hql.out]; exact ht3) (e.trans Hbt'.out.symm))))
                     clear hrf hcf
                     go_wp2_with fail
                     exact ⟨⟨k + 1, by omega, by go_num, HIf.out, HUf.out, HRf.out⟩, by simp [intOf]; omega⟩
                 · obtain rfl : k = 2 := by omega
                   have HRe := Lib.hid (show ∀ b ∈ Q, RepAt wr b dNm (ver + 1) (applyT T E) from fun b hb => by
                     obtain ⟨i, hi, rfl⟩ := in_getD hb
                     rw [Hql.out] at hi
                     have := HRk.out i hi
                     rw [dn_all hc3 g0 g1 gne gc0 gc1 i hi, if_pos rfl, if_pos rfl] at this
                     exact this)
                   go_wp2_with fail
                   go_roundw
                   case rel => exact ⟨_, _, _, _, _, _, _, _, _, _, _, _, _, _, _, _, _, _, _, _, _, _, _, _, _, _, _, _, _, _, _, _, _, _, _, _, _, _, _, _, _, _, _, _, _, _, _, _, _, _, _, _, _, _, _, _, _, _, _, _, _, _, _, _, _, _, _, _, _, _, _, _, _, _, _, _, _, _, _, _, _, _, _, _, _, _, _, ⟨j + 1, ver + 1, applyT T E, hist ++ [E], X, by omega, by go_num, by rw [Hver.out]; simp, by simp; omega, HIk.out, HRe.out⟩, rfl⟩
                   case measure => simp [intOf]; omega
             · have hno := rm_edit_no HI3.out.room (fun k => k < w.heap.size) c _ E hcin hcin Hu3.out HFE.out ⟨hver0, hverb⟩ hdn
               obtain ⟨z, hz⟩ : ∃ z, docNext ver T E = z := ⟨_, rfl⟩
               rw [hz] at hdn hno
               have hzb : (z == 0) = false := by simpa using hdn
               clear hz
               refine hno.mono ?_
               rintro e w4 ⟨rfl, c4⟩
               have HI4 := Lib.hid (HI3.out.same c4)
               have HR4 := Lib.hid (show ∀ b ∈ Q, RepAt w4 b dNm ver T from fun b hb => (HR3.out b hb).kept (S := fun _ => False) c4.p (fun h => h))
               clear hno c4
               go_wp2_with fail
               go_roundw
               case rel => exact ⟨_, _, _, _, _, _, _, _, _, _, _, _, _, _, _, _, _, _, _, _, _, _, _, _, _, _, _, _, _, _, _, _, _, _, _, _, _, _, _, _, _, _, _, _, _, _, _, _, _, _, _, _, _, _, _, _, _, _, _, _, _, _, _, _, _, _, _, _, _, _, _, _, _, _, _, _, _, _, _, _, _, _, _, _, _, _, _, ⟨j + 1, ver, T, hist, X, by omega, by go_num, Hver.out, by omega, HI4.out, HR4.out⟩, rfl⟩
               case measure => simp [intOf]; omega
        · obtain rfl : j = sn := by omega
          have hj1 : ¬ ((j : Int) < j) := by omega
          have HIa := Lib.hid HI.out
          have HRa := Lib.hid HR.out
          go_wp2_with fail
          refine (rm_document HIa.out.room).mono ?_
          rintro e wd1 ⟨rfl, cd1⟩
          have hIt := HIa.out.same (cd1.alloc (.cells #[.string ⟨#[100]⟩, .int .i64 ver, .string T] 30 (0, 0)))
          have hRt : ∀ b ∈ Q, RepAt (wd1.alloc (.cells #[.string ⟨#[100]⟩, .int .i64 ver, .string T] 30 (0, 0))) b dNm ver T := fun b hb => (HRa.out b hb).kept (S := fun _ => False) (cd1.alloc _).p (fun h => h)
          have hbt := heap_at wd1 (.cells #[.string ⟨#[100]⟩, .int .i64 ver, .string T] 30 (0, 0)) _ rfl
          obtain ⟨wt, hwt⟩ : ∃ x, x = wd1.alloc (.cells #[.string ⟨#[100]⟩, .int .i64 ver, .string T] 30 (0, 0)) := ⟨_, rfl⟩
          have Hwt := Lib.hid hwt
          rw [← hwt] at hIt hRt hbt
          have HIt := Lib.hid hIt
          have HRt := Lib.hid hRt
          have Hbt := Lib.hid hbt
          clear hIt hRt hbt hwt cd1
          go_wp2_with fail
          rw [← Hwt.out]
          go_loopw [154] (fun jj wx => ∃ k : Nat, k ≤ 3 ∧ jj = .int .i64 (k : Nat) ∧ Chg [] wt wx) (fun jj _ => 3 - (intOf jj).toNat)
          case atStart => exact ⟨0, by omega, rfl, Chg.refl _ _⟩
          case round =>
            obtain ⟨k, hk, rfl, hc⟩ := hrel
            have Hc := Lib.hid hc
            clear hc
            by_cases hlt3 : k < 3
            · have hk1 : (k : Int) < 3 := by omega
              obtain ⟨_, _, hvv, _, hvat⟩ := (HIt.out.same Hc.out).at
              obtain ⟨g0, hg0, hcell⟩ := hvat k (by rw [Hql.out]; exact hlt3)
              rw [Hql.out] at hvv
              simp only [Value.slice.injEq] at hvv
              obtain ⟨hvv, -, -⟩ := hvv
              rw [hg0] at hvv
              simp only [Option.some.injEq, Addr.mk.injEq, and_true] at hvv
              subst hvv
              have hbm : Q.getD k 0 ∈ Q := by rw [List.getD_eq_getElem?_getD, List.getElem?_eq_getElem (by rw [Hql.out]; exact hlt3)]; simp
              obtain ⟨b, hb⟩ : ∃ b, Q.getD k 0 = b := ⟨_, rfl⟩
              rw [hb] at hcell hbm
              have hrb := (HRt.out b hbm).kept (S := fun _ => False) Hc.out.p (fun h => h)
              obtain ⟨y0, y1, y2, _, _, _⟩ := three ((Hc.out.block _ (lt_of_obj Hbt.out) (by simp)).trans Hbt.out)
              have ly := lt_of_cell y0
              have Hrb := Lib.hid hrb
              have hneq := fun W => doc_neq ⟨#[100]⟩ ver T W
              clear hvat hg0 hb hbm hrb
              go_wp2_with fail
              go_region_law (rw [if_pos (by simp [Region.wanted])]; go_simp; refine (repDocument_any _ b ⟨#[100]⟩ ver T (Hrb.out.kept (S := fun _ => False) ((Chg.refl [] wr).drew).p (fun h => h))).mono ?_; rintro e wz ⟨rfl, cz⟩; have hcz : Chg [] wr wz := ((Chg.refl [] wr).drew).trans cz; have z0 := (hcz.cell ly (by simp)).trans y0; have z1 := (hcz.cell (p := ⟨wd1.heap.size, 1, none⟩) ly (by simp)).trans y1; have z2 := (hcz.cell (p := ⟨wd1.heap.size, 2, none⟩) ly (by simp)).trans y2; have Hcz := Lib.hid hcz; clear cz hcz)
              all_goals
                go_wp2_with fail
                exact ⟨⟨k + 1, by omega, by go_num, Hc.out.trans Hcz.out⟩, by simp [intOf]; omega⟩
            · obtain rfl : k = 3 := by omega
              go_wp2_with fail
              refine (syncExample_any _).mono ?_
              rintro e wf ⟨rfl, cf⟩
              go_wp2_with fail
              go_ret
              exact ⟨rfl, HIt.out.room.chg.trans (Hc.out.trans cf)⟩
end Go.Proofs.Ytihpcpcfccamoaa
