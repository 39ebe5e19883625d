/- Room.Edit: an edit that is accepted. -/
import Derived.Test.YtihpcpcfccamoaaDocN
import Derived.Test.YtihpcpcfccamoaaStill
import Derived.Deep.RegionLaw
import Derived.Deep.RegionHeld3
namespace Go.Proofs.Ytihpcpcfccamoaa
open Go.RowKit
set_option linter.unusedVariables false
set_option linter.unusedSimpArgs false
variable {B : Nat} {P q : Nat → Prop} {w w2 : World} {rb db dc pb : Nat} {dcs : Array Value} {cv hv rv : Value} {hvs : List Value} {nm : ByteArray} {cl : List Int} {ver : Int} {text : ByteArray} {hist : List (List Edit)} {rd : List Int}
theorem Try.infoES : (Try.prog.info? 42).map (fun i => (i.zero, i.size, i.bytes)) = some (some (.slice none 0 0), 1, 24) := by kernel_rfl
theorem Try.infoU : (Try.prog.info? 48).map (fun i => (i.zero, i.size, i.bytes)) = some (some (.agg #[.int .i64 0, .int .i64 0, .string ⟨#[]⟩, .int .i64 0, .slice none 0 0]), 5, 64) := by kernel_rfl
theorem hist_shape {v : Value} {n : Nat} {xs : List Value} {e : TypeId} (h : w.ownsRow B e 1 v n xs) : ∃ a cap, v = .slice a n cap ∧ (0 < n → ∃ g, a = some ⟨g, 0, none⟩) ∧ n ≤ cap := by
  rcases h.2 with ⟨rfl, h0⟩ | ⟨g, cap, cur, rfl, _, _, h3, _⟩
  · exact ⟨none, 0, by rw [h0], fun h => by omega, by omega⟩
  · exact ⟨_, cap, rfl, fun _ => ⟨g, rfl⟩, h3⟩
set_option maxRecDepth 100000 in
set_option maxHeartbeats 8000000 in
theorem edit_ok (h : RoomAt B P w rb nm cl ver text hist rd) (p : Nat → Prop) (hp : ∀ k, p k → ¬ P k) (c : Int) (v : Value) (E : List Edit) (hc : c ∈ cl) (hr : c ∈ rd) (hE : Eds p w v E) (hF : Fits E) (hl : E.length ≤ 50) (h0 : 0 ≤ ver) (hn : docNext ver text E = 0) (hh : hist.length ≤ 30) (hrn : rd.length ≤ 10) :
    Calls Try.prog 12 #[.pointer (some ⟨rb, 0, none⟩), .int .i64 c, .string nm, .int .i64 ver, v] w fun e w' => ∃ uv, e = .returned (.tuple #[uv, .int .i64 0]) ∧
      Ups (fun k => w.heap.size ≤ k ∧ k < w'.heap.size) nm c (ver + 1) E w' uv (rd.filter fun t => decide (t ≠ c)) ∧
      (∃ P', RoomAt B P' w' rb nm cl (ver + 1) (applyT text E) (hist ++ [E]) rd ∧ ∀ k, P' k → P k ∨ w.heap.size ≤ k) ∧ ChgP P w w' := by
  obtain ⟨i0, hi, hz0, hz1, hz2⟩ := info_parts Try.infoES
  have Hi0 := Lib.hid hi
  have Hz0 := Lib.hid hz0
  have Hz1 := Lib.hid hz1
  have Hz2 := Lib.hid hz2
  clear hi hz0 hz1 hz2
  obtain ⟨i1, hi, hz0, hz1, hz2⟩ := info_parts Try.infoU
  have Hi1 := Lib.hid hi
  have Hy0 := Lib.hid hz0
  have Hy1 := Lib.hid hz1
  have Hy2 := Lib.hid hz2
  clear hi hz0 hz1 hz2
  obtain ⟨q, db, dc, pb, dcs, cv, hv, rv, hvs, h⟩ := h
  obtain ⟨a, cap, rfl, _, _⟩ := hE.shape
  have H := Lib.hid h
  have HE := Lib.hid hE
  have HF := Lib.hid hF
  have Hp := Lib.hid hp
  have hvb : (ver == ver) = true := by simp
  have hap := fun W hW => docApply_ok p nm ver text (.slice a E.length cap) E W hW hF h0 hn
  have Hap := Lib.hid hap
  have Hhl := Lib.hid h.hlen
  obtain ⟨ah, ch, hhv, hah, hch⟩ := hist_shape h.his
  subst hhv
  obtain ⟨ar, cr, hrv, _, _, hrc⟩ := ints_of_own h.rds
  subst hrv
  have hBs : B ≤ w.heap.size := by have := h.pB rb (h.foot _ (Or.inl rfl)); omega
  clear h hE hF hp hap hah hch hrc
  go_enter Try.func12, Try.ntmps12
  go_wp2_with fail
  refine (opened_any H.out c hc hr).mono ?_
  rintro e w1 ⟨rfl, c1⟩
  have H1 := Lib.hid (H.out.same c1)
  obtain ⟨x0, x1, x2, x3, x4⟩ := H1.out.dcells
  have C1 := Lib.hid c1
  clear c1
  go_wp2_with fail
  refine (Hap.out w1 (HE.out.same C1.out)).mono ?_
  rintro e w2 ⟨rfl, c2⟩
  have H2 := Lib.hid (H1.out.same c2)
  have C2 := Lib.hid (C1.out.trans c2)
  have hb2 := heap_at w2 (.cells #[.string nm, .int .i64 (ver + 1), .string (applyT text E)] 30 (0, 0)) _ rfl
  obtain ⟨y0, y1, y2, _, _, _⟩ := three hb2
  obtain ⟨k1, k2, k3⟩ := (H1.out.same c2).lts
  obtain ⟨x0, x1, x2, x3, x4⟩ := (H1.out.same c2).dcells
  have f0 : ∀ i, w2.frozen? ⟨pb, i, none⟩ = false := fun i => frozen_of_heap (H1.out.same c2).doc
  have f00 := f0 0
  have f01 := f0 1
  have f02 := f0 2
  have hpl : pb < w2.heap.size + 1 := by omega
  clear c2 hb2 f0
  go_wp2_with fail
  obtain ⟨w9, hw9⟩ : ∃ x, x = ((((w2.setCell ⟨pb, 0, none⟩ (.string nm)).setCell ⟨pb, 1, none⟩ (.int .i64 (ver + 1))).setCell ⟨pb, 2, none⟩ (.string (applyT text E))).alloc (.cells #[.string nm, .int .i64 (ver + 1), .string (applyT text E)] 30 (0, 0))) := ⟨_, rfl⟩
  have h9 := (H2.out.putDoc (ver + 1) (applyT text E)).same ((Chg.refl [] _).alloc (.cells #[.string nm, .int .i64 (ver + 1), .string (applyT text E)] 30 (0, 0)))
  have hc9 : ChgP P w ((((w2.setCell ⟨pb, 0, none⟩ (.string nm)).setCell ⟨pb, 1, none⟩ (.int .i64 (ver + 1))).setCell ⟨pb, 2, none⟩ (.string (applyT text E))).alloc (.cells #[.string nm, .int .i64 (ver + 1), .string (applyT text E)] 30 (0, 0))) :=
    (((C2.out.p.setCell (p := ⟨pb, 0, none⟩) (Or.inl (H.out.foot pb (Or.inr (Or.inr (Or.inl rfl))))) _).setCell (p := ⟨pb, 1, none⟩) (Or.inl (H.out.foot pb (Or.inr (Or.inr (Or.inl rfl))))) _).setCell (p := ⟨pb, 2, none⟩) (Or.inl (H.out.foot pb (Or.inr (Or.inr (Or.inl rfl))))) _).alloc _
  rw [← hw9] at h9 hc9 ⊢
  have H9 := Lib.hid h9
  have C9 := Lib.hid hc9
  have HE9 := Lib.hid (HE.out.kept hc9 Hp.out)
  clear hw9 h9 hc9 x0 x1 x2 x3 x4 y0 y1 y2 f00 f01 f02 hpl k1 k2 k3
  obtain ⟨k1, k2, k3⟩ := H9.out.lts
  obtain ⟨x0, x1, x2, x3, x4⟩ := H9.out.dcells
  have hz9 := C9.out.size
  have hb9 : B ≤ w9.heap.size := by omega
  go_region_law (first
    | (rw [if_pos (by simp [Region.wanted])]; go_simp; refine (edClone_any p _ (.slice a E.length cap) E (HE9.out.same ((Chg.refl [] w9).drew)) (by omega)).mono ?_; rintro e wB ⟨u, rfl, hu, cB⟩; obtain ⟨au, cu, rfl, _, _⟩ := hu.shape; have hcB : Chg [] w9 wB := ((Chg.refl [] w9).drew).trans cB; have hXB := H9.out.same hcB; obtain ⟨e0, e1, e2, e3, e4⟩ := hXB.dcells; obtain ⟨m1, m2, m3⟩ := hXB.lts; have hzB := hcB.size; have Hu := Lib.hid hu; have HcB := Lib.hid hcB; have HXB := Lib.hid hXB; clear hu cB hcB hXB)
    | (refine step_append_lies _ (by rfl) _ _ _ (by rfl) B 42 i0 (.slice none 0 0) 1 24 Try.underlying23 Hi0.out Hz0.out Hz1.out Hz2.out rfl (by decide) (.slice ah hist.length ch) hist.length hvs (by rfl) (HXB.out.his.alloc _) ⟨wB.heap.size, 0, none⟩ 1 1 [.slice au E.length cu] (by rfl) (by rfl) (World.news_of_block (cs := #[.slice au E.length cu]) (t := 42) (fr := (0, 0)) (heap_alloc_new wB _)) (by simp [Value.oneCell']) (by omega) (by unfold maxLen; omega) (by omega) (by simp; omega) (wB.heap.size + 1) (by simp) ?_; intro gg cap4 w4 hown4 hgrow4 hat4 hlt4; have hc4 : ChgP (fun k => Value.ownBlock (.slice ah hist.length ch) = some k) wB w4 := ((ChgP.refl _ wB).alloc _).grown hgrow4 (fun k hk => Or.inl hk); have hpb4 := (hc4.block _ m3 (own_ne HXB.out.his HXB.out.doc (by decide))).trans HXB.out.doc; have f4 : w4.frozen? ⟨pb, 3, none⟩ = false := frozen_of_heap hpb4; have q4 : w4.cell? ⟨pb, 3, none⟩ = some (.slice ah hist.length ch) := cell_of_heap hpb4 rfl; have Hown4 := Lib.hid hown4; have Hat4 := Lib.hid hat4; have Hc4 := Lib.hid hc4; clear hown4 hgrow4 hat4 hc4 hpb4))
  all_goals
    have hXE := H9.out.putHist (E := E) HcB.out Hu.out Hc4.out Hown4.out (fun k hk => by
      simp only [Value.ownBlock, Option.some.injEq] at hk
      subst hk
      exact Hat4.out.imp id (fun e => by omega))
    have hcE : ChgP P w (w4.setCell ⟨pb, 3, none⟩ (.slice (some ⟨gg, 0, none⟩) (hist.length + 1) cap4)) := ((C9.out.trans HcB.out.p).trans (Hc4.out.mono fun k hk => H9.out.foot k (Or.inr (Or.inr (Or.inr (Or.inr (Or.inl hk))))))).setCell (p := ⟨pb, 3, none⟩) (Or.inl (H9.out.foot pb (Or.inr (Or.inr (Or.inl rfl))))) _
    obtain ⟨wE, hwE⟩ : ∃ x, x = w4.setCell ⟨pb, 3, none⟩ (.slice (some ⟨gg, 0, none⟩) (hist.length + 1) cap4) := ⟨_, rfl⟩
    have hz4 : wE.heap.size = w4.heap.size := by rw [hwE]; simp [World.setCell]
    rw [← hwE] at hXE hcE ⊢
    obtain ⟨PE, hPE⟩ : ∃ x, x = fun k => P k ∨ (w9.heap.size ≤ k ∧ k < w4.heap.size) := ⟨_, rfl⟩
    rw [← hPE] at hXE
    have HPE := Lib.hid (show ∀ k, PE k → P k ∨ w.heap.size ≤ k from fun k hk => by rw [hPE] at hk; exact hk.imp id (fun h => by omega))
    have HXE := Lib.hid hXE
    have HcE := Lib.hid hcE
    obtain ⟨d0, d1, d2, d3, d4⟩ := hXE.dcells
    obtain ⟨n1, n2, n3⟩ := hXE.lts
    have fE : wE.frozen? ⟨pb, 3, none⟩ = false := frozen_of_heap hXE.doc
    have hEE : Eds p wE (.slice a E.length cap) E := HE.out.kept hcE Hp.out
    have HEE := Lib.hid hEE
    have hhi : ((hist.length + 1 : Nat) : Int) ≤ 31 := by omega
    have hhc : ((hist.length + 1 : Nat) : Int) ≤ cap4 := by
      have := (hist_shape Hown4.out)
      obtain ⟨_, _, e, _, h5⟩ := this
      simp only [Value.slice.injEq] at e
      obtain ⟨_, _, rfl⟩ := e
      omega
    clear hXE hcE hEE hPE hwE f4 q4 x0 x1 x2 x3 x4
    try clear e0 e1 e2 e3 e4
    go_wp2_with fail
    refine wp_region_readsQ 15 (by kernel_rfl) (by kernel_rfl) ?_
    intro wd hwd
    simp only [List.take_succ_cons, List.take_zero, List.drop_succ_cons, List.drop_zero]
    have g3 : wd.cell? ⟨pb, 3, none⟩ = some (.slice (some ⟨gg, 0, none⟩) (hist.length + 1) cap4) := by rw [hwd]; exact d3
    have gf : wd.frozen? ⟨pb, 3, none⟩ = false := by rw [hwd]; exact fE
    have g4 : wd.cell? ⟨pb, 4, none⟩ = some (.slice ar rd.length cr) := by rw [hwd]; exact d4
    have hmx : max (0 : Int) ((hist.length : Int) + 1 - 50) = 0 := by omega
    have Hwd := Lib.hid hwd
    clear hwd
    repeat go_big_quiet_step (fail)
    refine wpQuiet_nil ?_
    go_wp2_with fail
    have hXd := HXE.out.same (show Chg [] wE wd by rw [Hwd.out]; exact (Chg.refl _ _).drew)
    have hcm : Chg [] wE (wd.setCell ⟨pb, 3, none⟩ (.slice (some ⟨gg, 0, none⟩) (hist.length + 1) cap4)) := (show Chg [] wE wd by rw [Hwd.out]; exact (Chg.refl _ _).drew).trans hXd.again
    obtain ⟨wm, hwm⟩ : ∃ x, x = wd.setCell ⟨pb, 3, none⟩ (.slice (some ⟨gg, 0, none⟩) (hist.length + 1) cap4) := ⟨_, rfl⟩
    rw [← hwm] at hcm ⊢
    have HXm := Lib.hid (HXE.out.same hcm)
    have Hcm := Lib.hid hcm
    have HEm := Lib.hid (HEE.out.same hcm)
    have hzm := hcm.size
    have hzE := HcE.out.size
    clear hXd hcm hwm g3 gf g4 hmx d0 d1 d2 d3 d4 fE
    obtain ⟨d0, d1, d2, d3, d4⟩ := HXm.out.dcells
    obtain ⟨o1, o2, o3⟩ := HXm.out.lts
    go_loopw [15, 82] (fun uu jj wr => ∃ (k : Nat) (ups : List (Int × Value)), k ≤ rd.length ∧ jj = .int .i64 (k : Nat) ∧ UpI wm wr c nm (ver + 1) E uu ups ∧ ups.map (·.1) = (rd.take k).filter (fun t => decide (t ≠ c)) ∧ Chg [] wm wr) (fun _ jj _ => rd.length - (intOf jj).toNat)
    case atStart => exact ⟨0, [], by omega, rfl, UpI.none _ _ _ _ _ _, by simp, Chg.refl _ _⟩
    case round =>
      obtain ⟨k, ups, hk, rfl, hU, hmap, hcr⟩ := hrel
      have HU := Lib.hid hU
      have Hmap := Lib.hid hmap
      have Hcr := Lib.hid hcr
      have hul : ups.length ≤ k := by
        have e := congrArg List.length hmap
        rw [List.length_map] at e
        have := List.length_filter_le (fun t => decide (t ≠ c)) (rd.take k)
        rw [List.length_take] at this
        omega
      obtain ⟨au0, cu0, hus⟩ := ownsRow_shape hU.1
      subst hus
      have hzr := hcr.size
      clear hU hmap hcr
      by_cases hlt : k < rd.length
      · have hk1 : (k : Int) < rd.length := by omega
        obtain ⟨a', cap', hsl, _, _, hcc⟩ := ints_of_own HXm.out.rds
        obtain ⟨g, hg, hgc⟩ := hcc (by omega)
        simp only [Value.slice.injEq] at hsl
        obtain ⟨rfl, -, rfl⟩ := hsl
        subst hg
        have r0 := hgc k hlt
        rw [Nat.zero_add] at r0
        obtain ⟨t, ht⟩ : ∃ t, rd.getD k 0 = t := ⟨_, rfl⟩
        rw [ht] at r0
        have r1 := (Hcr.out.cell (lt_of_cell r0) (by simp)).trans r0
        have v1 := (Hcr.out.cell (p := ⟨pb, 1, none⟩) o3 (by simp)).trans d1
        have hpr : pb < wr.heap.size := by omega
        have htk : rd.take (k + 1) = rd.take k ++ [t] := by
          rw [List.take_succ_eq_append_getElem hlt, ← ht, List.getD_eq_getElem?_getD, List.getElem?_eq_getElem hlt]
          rfl
        have Htk := Lib.hid htk
        clear hcc hgc r0 ht htk
        by_cases htc : t = c
        · subst htc
          have hb1 : (t == t) = true := by simp
          go_wp2_with fail
          exact ⟨⟨k + 1, ups, by omega, by go_num, HU.out, by rw [Hmap.out, Htk.out, List.filter_append]; simp, Hcr.out⟩, by simp [intOf]; omega⟩
        · have hb1 : (t == c) = false := by simpa using htc
          go_wp2_with fail
          go_region_law (first
            | (rw [if_pos (by simp [Region.wanted])]; go_simp; refine (edClone_any p _ (.slice a E.length cap) E (HEm.out.same (Hcr.out.drew)) (by omega)).mono ?_; rintro e wB ⟨u, rfl, hu, cB⟩; obtain ⟨au, cu, rfl, _, _⟩ := hu.shape; have hcB : Chg [] wr wB := ((Chg.refl [] wr).drew).trans cB; have v2 := (hcB.cell (p := ⟨pb, 1, none⟩) hpr (by simp)).trans v1; have hzB := hcB.size; have hpB : pb < wB.heap.size := (by omega); have Hu := Lib.hid hu; have HcB2 := Lib.hid hcB; clear hu cB hcB)
            | (refine step_append_lies _ (by rfl) _ _ _ (by rfl) wm.heap.size 48 i1 (.agg #[.int .i64 0, .int .i64 0, .string ⟨#[]⟩, .int .i64 0, .slice none 0 0]) 5 64 Try.underlying43 Hi1.out Hy0.out Hy1.out Hy2.out rfl (by decide) (.slice au0 ups.length cu0) ups.length (flatU c nm (ver + 1) ups) (by rfl) ((HU.out.same HcB2.out).1.alloc _) ⟨wB.heap.size, 0, none⟩ 1 1 [.int .i64 t, .int .i64 c, .string nm, .int .i64 (ver + 1), .slice au E.length cu] (by rfl) (by rfl) (World.news_of_block (cs := #[.int .i64 t, .int .i64 c, .string nm, .int .i64 (ver + 1), .slice au E.length cu]) (t := 48) (fr := (0, 0)) (heap_alloc_new wB _)) (by simp [Value.oneCell']) (by omega) (by unfold maxLen; omega) (by omega) (by simp; omega) (wB.heap.size + 1) (by simp) ?_; intro gu capu w5 hown5 hgrow5 hat5 hlt5; have hc5 : ChgP (fun k => Value.ownBlock (.slice au0 ups.length cu0) = some k) wB w5 := ((ChgP.refl _ wB).alloc _).grown hgrow5 (fun k hk => Or.inl hk); have Hown5 := Lib.hid hown5; have Hat5 := Lib.hid hat5; have Hc5 := Lib.hid hc5; clear hown5 hgrow5 hat5 hc5))
          all_goals
            go_wp2_with fail
            have hU5 := UpI.step (t := t) HU.out (by omega) HcB2.out Hu.out Hc5.out Hown5.out (fun k hk => by
              simp only [Value.ownBlock, Option.some.injEq] at hk
              subst hk
              exact Hat5.out.imp id (fun e => by omega))
            have hcf : Chg [] wm w5 := chgP_new ((Hcr.out.trans HcB2.out).p) Hc5.out (fun k hk => (HU.out.1.lt k hk).1)
            exact ⟨⟨k + 1, _, by omega, by go_num, hU5, by rw [List.map_append, Hmap.out, Htk.out, List.filter_append]; simp [htc], hcf⟩, by simp [intOf]; omega⟩
      · obtain rfl : k = rd.length := by omega
        have hk1 : ¬ ((rd.length : Int) < rd.length) := by omega
        have hm2 := Hmap.out
        rw [List.take_length] at hm2
        have hfin : ChgP P w wr := (HcE.out.trans Hcm.out.p).trans Hcr.out.p
        have Hm2 := Lib.hid hm2
        have Hfin := Lib.hid hfin
        clear hm2 hfin
        go_wp2_with fail
        go_ret2
        exact ⟨_, rfl, HU.out.ups (by omega) (by have h := Hm2.out; simpa using h), ⟨PE, ⟨_, _, _, _, _, _, _, _, _, HXm.out.same Hcr.out⟩, HPE.out⟩, Hfin.out⟩
end Go.Proofs.Ytihpcpcfccamoaa
