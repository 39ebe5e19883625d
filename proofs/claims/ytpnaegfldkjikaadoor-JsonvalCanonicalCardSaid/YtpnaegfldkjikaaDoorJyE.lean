/- JSON texts, any text: text(). -/
import Derived.Test.YtpnaegfldkjikaaDoorJyD
namespace Go.Proofs.YtpnaegfldkjikaaDoor.Jv
open Go.RowKit Go.ChangeMaps Go.MapKept
set_option linter.unusedVariables false
set_option linter.unusedSimpArgs false
theorem escL_app : ∀ l m : List UInt8, escL (l ++ m) = escL l ++ escL m
  | [], m => rfl
  | c :: l, m => by rw [List.cons_append, escL, escL, escL_app l m, List.append_assoc]
theorem pre_one (l : List UInt8) (c : UInt8) : Lib.hasPrefix l [c] = true → 1 ≤ l.length := fun h => Lib.hasPrefix_le h
/-- what text() does, on any text -/
def TxA (db : Nat) (s : ByteArray) (o : Nat) (w : World) (e : Ending) (w' : World) : Prop :=
  (e = .panicked sx ∧ Chg [db] w w') ∨ ∃ (t : ByteArray) (q : Nat), e = .returned (.string t) ∧ u8 t = true ∧ o + (encS t).length ≤ q ∧ q ≤ s.size ∧ DS w' db s q ∧ Chg [db] w w'
theorem eb_lb {b db : Nat} {w w' : World} (h : ChgP (EB b b db w) w w') : ChgP (LB b db) w w' := h.mono fun k hk => hk.imp id fun h => h.1
set_option maxRecDepth 100000 in
set_option maxHeartbeats 16000000 in
theorem text_any (db : Nat) (s : ByteArray) (o : Nat) (w : World) (h : DS w db s o) (hs : s.size ≤ 100000) (ho : o ≤ s.size) (hE : DE db w) :
    Calls Tryd.prog 39 #[.pointer (some ⟨db, 0, none⟩)] w (TxA db s o w) := by
  have hsl : s.data.toList.length = s.size := rfl
  have Hac := Lib.hid (accept_any db s ⟨#[34]⟩ o w h ho hs (by decide))
  have hpl : Lib.hasPrefix (s.data.toList.drop o) (ByteArray.mk #[34]).data.toList = true → o + 1 ≤ s.size := fun h => by
    have h1 := Lib.hasPrefix_le h
    rw [List.length_drop] at h1
    have h3 : (ByteArray.mk #[34]).data.toList.length = 1 := rfl
    omega
  generalize Lib.hasPrefix (s.data.toList.drop o) (ByteArray.mk #[34]).data.toList = p at Hac hpl
  have He := Lib.hid (fun W => expect_any db true W)
  have Hf := Lib.hid (fun W => expect_any db false W)
  have HT : Hid (Tb w ∧ Tryd.laysValid_ren.g 3 ≠ db ∧ Tryd.laysValid_ren.g 4 ≠ db) := Lib.hid ⟨hE.2.1, by have := hE.2.2.2.1; omega, by have := hE.2.2.2.2; omega⟩
  have HE := Lib.hid hE
  have hdb := lt_of_obj h
  have Hdb := Lib.hid hdb
  have Hpl := Lib.hid hpl
  clear h hE hdb hpl ho
  go_enter Tryd.func39, Tryd.ntmps39
  go_wp2_with fail
  refine Hac.out.mono ?_
  rintro e w1 ⟨rfl, hd1, hc1⟩
  have H1' : Hid (DS w1 db s (if p = true then o + (ByteArray.mk #[34]).size else o) ∧ Chg [db] w w1) := Lib.hid ⟨hd1, hc1⟩
  clear hd1 hc1
  cases p with
  | false =>
    go_wp2_with fail
    refine (Hf.out w1).mono ?_
    rintro e w1' ⟨rfl, rfl⟩
    go_wp2_with fail
    exact ⟨rfl, Or.inl ⟨rfl, H1'.out.2⟩⟩
  | true =>
  have Ho1 : Hid (o + 1 ≤ s.size) := Lib.hid (Hpl.out rfl)
  have H1 : Hid (DS w1 db s (o + 1) ∧ Chg [db] w w1) := Lib.hid ⟨H1'.out.1, H1'.out.2⟩
  clear H1' Hac
  go_wp2_with fail
  refine (He.out w1).mono ?_
  rintro e w1' ⟨rfl, rfl⟩
  obtain ⟨w2, hw2⟩ : ∃ x, x = w1'.alloc (.cells #[.pointer none, .slice none 0 0] 49 (0, 0)) := ⟨_, rfl⟩
  obtain ⟨b, hb⟩ : ∃ x, x = w1'.heap.size := ⟨_, rfl⟩
  have hc2 : Chg [] w1' w2 := by rw [hw2]; exact (Chg.refl _ _).alloc _
  have hb2 : w2.heap[b]? = some (.cells #[.pointer none, .slice none 0 0] 49 (0, 0)) := by rw [hw2, hb]; exact heap_at _ _ _ rfl
  have hbw : BW b b [] w2 := Or.inl ⟨Nat.le_refl _, .slice none 0 0, hb2, World.ownsRow_nil _ _ _ _, by simp [Value.ownBlock]⟩
  have HTS : Hid (TS b b db s (o + 1) [] w2 w2) := Lib.hid ⟨H1.out.1.new hc2, hbw, ChgP.refl _ _, by rw [hb]; exact hc2.size⟩
  have Hbz := Lib.hid (show b = w1'.heap.size ∧ w.heap.size ≤ b ∧ db < b ∧ Chg [db] w w2 from ⟨hb, by rw [hb]; exact H1.out.2.size, by have h1 := Hdb.out; have h2 := H1.out.2.size; omega, H1.out.2.new hc2⟩)
  have HE2 : Hid (DE db w2) := Lib.hid (HE.out.db Hbz.out.2.2.2)
  clear hc2 hb2 hbw
  go_wp2_with fail
  rw [← hw2, ← hb]
  clear hw2 hb
  have hHR : Hid (o + 1 + (escL []).length ≤ o + 1 ∧ o + 1 ≤ s.size) := Lib.hid ⟨by simp [escL], Ho1.out⟩
  go_loopw [] (fun wr => ∃ (q : Nat) (l : List UInt8), Hid (TS b b db s q l w2 wr) ∧ Hid (o + 1 + (escL l).length ≤ q ∧ q ≤ s.size)) (fun wr => s.size - offW wr db)
  case atStart => exact ⟨o + 1, [], HTS, hHR⟩
  case round =>
    obtain ⟨q, l, HT1, HL⟩ := hrel
    have c0 := HT1.out.ds.c0
    have c1 := HT1.out.ds.c1
    have f1 := HT1.out.ds.fz 1
    have lb := lt_of_cell c0
    have hoff := HT1.out.ds.off
    have hll : l.length ≤ 100000 := by
      have h1 := HL.out.1
      have h2 := HL.out.2
      have h3 := escL_len l
      omega
    have hqs := HL.out.2
    by_cases hp2 : q < s.size
    · have hij : (q : Int) < s.size := by omega
      have hi0 : (0 : Int) ≤ q := by omega
      have hqd : decide ((q : Int) < s.size) = true := decide_eq_true hij
      have hqn : decide (q < s.size) = true := decide_eq_true hp2
      obtain ⟨a, ha⟩ : ∃ a, s[q].toNat = a := ⟨_, rfl⟩
      have hgq : s[q].toNat = a := ha
      have ha256 : a < 256 := by rw [← ha]; exact s[q].toNat_lt
      clear ha
      by_cases ha3 : 32 ≤ a
      · have ha32 : decide ((32 : Int) ≤ (a : Int)) = true := decide_eq_true (by omega)
        have ha32n : decide (32 ≤ a) = true := decide_eq_true (by omega)
        go_upto_region 3 with fail
        go_quiet ((go_at_call 27; (refine Calls.quiet_of_same (He.out _))))
        generalize hwy : wr.drewN _ = wy
        have hcy : Chg [] wr wy := by rw [← hwy]; exact (Chg.refl _ _).drewN _
        have HTy := Lib.hid (HT1.out.new hcy)
        have c0 := HTy.out.ds.c0
        have c1 := HTy.out.ds.c1
        clear hwy hcy
        go_upto_region 4 with fail
        go_quiet (fail)
        generalize hwz : wy.drewN _ = wz
        have hcz : Chg [] wy wz := by rw [← hwz]; exact (Chg.refl _ _).drewN _
        have HTz := Lib.hid (HTy.out.new hcz)
        have c0 := HTz.out.ds.c0
        have c1 := HTz.out.ds.c1
        have f1 := HTz.out.ds.fz 1
        have lb := lt_of_cell c0
        have HT3 : Hid (TS b b db s (q + 1) l w2 (wz.setCell ⟨db, 1, none⟩ (.int .i64 ((q : Int) + 1)))) := Lib.hid (HTz.out.db (set_chg _ _ _) (HTz.out.ds.setI (by omega)) Hbz.out.2.2.1)
        clear hwz hcz
        by_cases h34 : a = 34
        · subst h34
          go_wp2_with fail
          have Hend : Hid (DS (wz.setCell ⟨db, 1, none⟩ (.int .i64 ((q : Int) + 1))) db s (q + 1)) := Lib.hid HT3.out.ds
          have Hcg := Lib.hid (eb_lb HT3.out.chg)
          obtain ⟨t, ht⟩ : ∃ t : ByteArray, t = ⟨l.toArray⟩ := ⟨_, rfl⟩
          have htl : t.data.toList = l := by rw [ht]
          have hts : t.size ≤ maxLen := by
            have h4 : t.data.toList.length = t.size := rfl
            rw [htl] at h4
            unfold maxLen
            omega
          have Hts := Lib.hid (And.intro hts htl)
          have Ht := Lib.hid ht.symm
          have hF := Lib.hid (Lib.IsBuilderF.of HT3.out.bw)
          have hBs := Lib.hid HT3.out.B
          clear hts htl ht
          refine (Tryd.Builder_String_any_f b b l _ hF.out hBs.out).mono ?_
          rintro e w5 ⟨rfl, hb5, hw5⟩
          rw [Ht.out]
          have H5 : Hid (ChgP (LB b db) w2 w5 ∧ DS w5 db s (q + 1) ∧ Lib.IsBuilderF 49 5 b b (Lib.byteCells l) w5 ∧ b ≤ w5.heap.size) := Lib.hid ⟨Hcg.out.trans (below_lb hw5), (hw5.block db Hbz.out.2.2.1).trans Hend.out, hb5, Nat.le_trans hBs.out hw5.size⟩
          clear hb5 hw5
          have Hvs : Hid (Calls Tryd.prog 44 #[.string t] w5 fun e w' => e = .returned (.bool (u8 t)) ∧ Chg [] w5 w') := Lib.hid (valid_str t w5 Hts.out.1 (tb_lb HT.out.1 HT.out.2 Hbz.out.2.1 Hbz.out.2.2.2 H5.out.1))
          obtain ⟨u, hu⟩ : ∃ u, u = u8 t := ⟨_, rfl⟩
          rw [← hu] at Hvs
          have Hu := Lib.hid hu
          clear hu
          go_wp2_with fail
          refine Hvs.out.mono ?_
          rintro e w6 ⟨rfl, hc6⟩
          have H6 : Hid (ChgP (LB b db) w2 w6 ∧ DS w6 db s (q + 1) ∧ Lib.IsBuilderF 49 5 b b (Lib.byteCells l) w6 ∧ b ≤ w6.heap.size) := Lib.hid ⟨H5.out.1.trans hc6.p, H5.out.2.1.new hc6, bldF_same H5.out.2.2.1 hc6, Nat.le_trans H5.out.2.2.2 hc6.size⟩
          clear hc6
          cases u with
          | false =>
            go_wp2_with fail
            refine (Hf.out w6).mono ?_
            rintro e w7 ⟨rfl, rfl⟩
            go_wp2_with fail
            exact ⟨rfl, Or.inl ⟨rfl, chg_lb Hbz.out.2.1 Hbz.out.2.2.2 H6.out.1⟩⟩
          | true =>
          go_wp2_with fail
          refine (He.out w6).mono ?_
          rintro e w7 ⟨rfl, rfl⟩
          go_wp2_with fail
          refine (Tryd.Builder_String_any_f b b l _ H6.out.2.2.1 H6.out.2.2.2).mono ?_
          rintro e w8 ⟨rfl, hb8, hw8⟩
          rw [Ht.out]
          have H8 : Hid (ChgP (LB b db) w2 w8 ∧ DS w8 db s (q + 1)) := Lib.hid ⟨H6.out.1.trans (below_lb hw8), (hw8.block db Hbz.out.2.2.1).trans H6.out.2.1⟩
          clear hb8 hw8
          have hel : (encS t).length = (escL l).length + 2 := by rw [← Hts.out.2]; simp [encS]
          have Hel := Lib.hid hel
          clear hel
          go_wp2_with fail
          go_ret
          exact Or.inr ⟨t, q + 1, rfl, Hu.out.symm, by have := HL.out.1; have := Hel.out; omega, by omega, H8.out.2, chg_lb Hbz.out.2.1 Hbz.out.2.2.2 H8.out.1⟩
        by_cases h92 : a = 92
        · subst h92
          go_wp2_with fail
          refine (esc_any b b db s (q + 1) l w2 _ HT3.out Hbz.out.2.2.1 hs hll (by omega) HE2.out).mono ?_
          rintro e w5 (⟨rfl, hc5⟩ | ⟨l', q', rfl, hT5, hq1, hq2, hq3⟩)
          · have Hc5 := Lib.hid hc5
            clear hc5
            go_wp2_with fail
            exact ⟨rfl, Or.inl ⟨rfl, chg_lb Hbz.out.2.1 Hbz.out.2.2.2 (eb_lb Hc5.out)⟩⟩
          have H5 := Lib.hid hT5
          have HL5 : Hid (o + 1 + (escL (l ++ l')).length ≤ q' ∧ q' ≤ s.size) := Lib.hid ⟨by rw [escL_app, List.length_append]; have := HL.out.1; omega, hq2⟩
          have Hq := Lib.hid hq1
          clear hT5 hq1 hq2 hq3
          go_wp2_with fail
          refine ⟨⟨q', _, H5, HL5⟩, ?_⟩
          rw [H5.out.ds.off, hoff]
          have := Hq.out
          omega
        have e34 : ((a : Int) == 34) = false := by simp; omega
        have e92 : ((a : Int) == 92) = false := by simp; omega
        have n34 : (a == 34) = false := by simp; omega
        have n92 : (a == 92) = false := by simp; omega
        have hau : a.toUInt8.toNat = a := by simp [Nat.toUInt8, UInt8.toNat_ofNat']; omega
        have HL5 : Hid (o + 1 + (escL (l ++ [a.toUInt8])).length ≤ q + 1 ∧ q + 1 ≤ s.size) := Lib.hid ⟨by
          rw [escL_app, List.length_append, escL, hau, escN_plain (by omega)]
          have := HL.out.1
          simp [escL]
          omega, by omega⟩
        clear hau
        go_wp2_with fail
        refine (wb_any b b l a _ HT3.out.bw ha256 (by omega) HT3.out.B).mono ?_
        rintro e w5 ⟨rfl, hb5, hc5, _⟩
        have H5 := Lib.hid (HT3.out.wr hb5 hc5 Hbz.out.2.2.1)
        clear hb5 hc5
        go_wp2_with fail
        refine ⟨⟨q + 1, _, H5, HL5⟩, ?_⟩
        rw [H5.out.ds.off, hoff]
        omega
      · have ha32 : decide ((32 : Int) ≤ (a : Int)) = false := decide_eq_false (by omega)
        have ha32n : decide (32 ≤ a) = false := decide_eq_false (by omega)
        go_upto_region 3 with fail
        refine wp_region_readsQ 23 (by kernel_rfl) (by kernel_rfl) ?_
        intro wd hwd
        simp only [List.take_succ_cons, List.take_zero, List.drop_succ_cons, List.drop_zero]
        have hcd : Chg [] wr wd := by rw [hwd]; exact (Chg.refl [] wr).drew
        have Hd := Lib.hid (HT1.out.new hcd)
        have c0 := Hd.out.ds.c0
        have c1 := Hd.out.ds.c1
        have lb := lt_of_cell c0
        clear hwd hcd
        repeat go_big_quiet_step (fail)
        refine wpQuiet_nil ?_
        go_wp2_with fail
        refine (Hf.out wd).mono ?_
        rintro e w3 ⟨rfl, rfl⟩
        go_wp2_with fail
        exact ⟨rfl, Or.inl ⟨rfl, chg_lb Hbz.out.2.1 Hbz.out.2.2.2 (eb_lb Hd.out.chg)⟩⟩
    · have hij : ¬ ((q : Int) < s.size) := by omega
      have hqd : decide ((q : Int) < s.size) = false := decide_eq_false hij
      have hqn : decide (q < s.size) = false := decide_eq_false hp2
      go_upto_region 3 with fail
      refine wp_region_readsQ 23 (by kernel_rfl) (by kernel_rfl) ?_
      intro wd hwd
      simp only [List.take_succ_cons, List.take_zero, List.drop_succ_cons, List.drop_zero]
      have hcd : Chg [] wr wd := by rw [hwd]; exact (Chg.refl [] wr).drew
      have Hd := Lib.hid (HT1.out.new hcd)
      have c0 := Hd.out.ds.c0
      have c1 := Hd.out.ds.c1
      have lb := lt_of_cell c0
      clear hwd hcd
      repeat go_big_quiet_step (fail)
      refine wpQuiet_nil ?_
      go_wp2_with fail
      refine (Hf.out wd).mono ?_
      rintro e w3 ⟨rfl, rfl⟩
      go_wp2_with fail
      exact ⟨rfl, Or.inl ⟨rfl, chg_lb Hbz.out.2.1 Hbz.out.2.2.2 (eb_lb Hd.out.chg)⟩⟩
end Go.Proofs.YtpnaegfldkjikaaDoor.Jv
