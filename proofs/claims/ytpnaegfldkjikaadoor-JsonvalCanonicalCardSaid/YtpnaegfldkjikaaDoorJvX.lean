/- JSON texts: a text. -/
import Derived.Test.YtpnaegfldkjikaaDoorJvW
namespace Go.Proofs.YtpnaegfldkjikaaDoor.Jv
open Go.RowKit Go.ChangeMaps Go.MapKept
set_option linter.unusedVariables false
set_option linter.unusedSimpArgs false
theorem pre_cons (c : UInt8) (r : List UInt8) : Lib.hasPrefix (c :: r) [c] = true := by simp [Lib.hasPrefix]
theorem escN_plain {a : Nat} (h : ¬ (a = 34 ∨ a = 92 ∨ a < 32)) : escN a = [a.toUInt8] := by
  unfold escN
  rw [if_neg (by omega), if_neg (by omega), if_neg (by omega), if_neg (by omega), if_neg (by omega), if_neg (by omega), if_neg (by omega), if_neg (by omega)]
theorem escN_esc {a : Nat} (h : a = 34 ∨ a = 92 ∨ a < 32) : escN a = 92 :: escT a := by
  unfold escT escN
  split
  · rfl
  split
  · rfl
  split
  · rfl
  split
  · rfl
  split
  · rfl
  split
  · rfl
  split
  · rfl
  split
  · rfl
  · omega
theorem get_of_drop {s : ByteArray} {o : Nat} {c : UInt8} {r : List UInt8} (h : s.data.toList.drop o = c :: r) (ho : o < s.size) : s[o] = c := by
  have hl : o < s.data.toList.length := ho
  rw [List.drop_eq_getElem_cons hl] at h
  have := (List.cons.inj h).1
  rw [← this]
  rfl
theorem toList_ext {t : ByteArray} : t = ⟨t.data.toList.toArray⟩ := by cases t; simp
theorem escN_len (a : Nat) : 1 ≤ (escN a).length := by
  unfold escN
  repeat' split
  all_goals simp
theorem escL_len (l : List UInt8) : l.length ≤ (escL l).length := by
  induction l with
  | nil => simp [escL]
  | cons c l ih =>
    rw [escL, List.length_append, List.length_cons]
    have := escN_len c.toNat
    omega
/-- what may change behind a builder's birth -/
def LB (b db k : Nat) : Prop := k = db ∨ b ≤ k
theorem below_lb {b db : Nat} {a w : World} (h : Below b a w) : ChgP (LB b db) a w := ⟨h.os, h.tape, h.output, h.size, fun k hk hn => h.block k (by unfold LB at hn; omega)⟩
theorem tb_lt {w : World} (h : Tb w) : Tryd.laysValid_ren.g 3 < w.heap.size ∧ Tryd.laysValid_ren.g 4 < w.heap.size := ⟨lt_of_cell (h.1 0 (by decide)), lt_of_cell (h.2 0 (by decide)).1⟩
theorem tb_lb {b db : Nat} {w w2 w5 : World} (h : Tb w) (hd : Tryd.laysValid_ren.g 3 ≠ db ∧ Tryd.laysValid_ren.g 4 ≠ db) (hb : w.heap.size ≤ b) (hc : Chg [db] w w2) (h2 : ChgP (LB b db) w2 w5) : Tb w5 := by
  obtain ⟨x3, x4⟩ := tb_lt h
  refine (h.kept hc.toP ?_ ?_).kept h2 ?_ ?_
  · simpa using hd.1
  · simpa using hd.2
  · rintro (h | h)
    · exact hd.1 h
    · omega
  · rintro (h | h)
    · exact hd.2 h
    · omega
theorem chg_lb {b db : Nat} {w w2 w5 : World} (hb : w.heap.size ≤ b) (hc : Chg [db] w w2) (h2 : ChgP (LB b db) w2 w5) : Chg [db] w w5 :=
  ⟨h2.os.trans hc.os, h2.tape.trans hc.tape, h2.output.trans hc.output, Nat.le_trans hc.size h2.size, fun k hk hn => (h2.block k (Nat.lt_of_lt_of_le hk hc.size) (by rintro (h | h); exact hn (by simp [h]); omega)).trans (hc.block k hk hn)⟩
theorem bldF_same {B b : Nat} {bs : List Value} {w w' : World} (h : Lib.IsBuilderF 49 5 B b bs w) (hc : Chg [] w w') : Lib.IsBuilderF 49 5 B b bs w' := by
  have hx : ∀ p, Lib.BuilderAtF 49 5 B b p bs w → Lib.BuilderAtF 49 5 B b p bs w' := fun p ⟨hB, v, hb, hown, hne⟩ => by
    refine ⟨hB, v, (hc.block b (lt_of_obj hb) (by simp)).trans hb, ⟨hown.1, ?_⟩, hne⟩
    rcases hown.2 with h | ⟨g, cap, cur, fz, h1, h2, h3, h4⟩
    · exact Or.inl h
    · exact Or.inr ⟨g, cap, cur, fz, h1, h2, (hc.block g (lt_of_obj h3) (by simp)).trans h3, h4⟩
  exact h.imp (hx _) (hx _)
set_option maxRecDepth 100000 in
set_option maxHeartbeats 16000000 in
theorem text_yes (db : Nat) (s t : ByteArray) (o : Nat) (r : List UInt8) (w : World) (h : DS w db s o) (hs : s.size ≤ 100000) (hr : s.data.toList.drop o = encS t ++ r) (hT : Tb w) (hTd : Tryd.laysValid_ren.g 3 ≠ db ∧ Tryd.laysValid_ren.g 4 ≠ db) (hu : u8 t = true) :
    Calls Tryd.prog 39 #[.pointer (some ⟨db, 0, none⟩)] w fun e w' => e = .returned (.string t) ∧ DS w' db s (o + (encS t).length) ∧ Chg [db] w w' := by
  have hsl : s.data.toList.length = s.size := rfl
  have hlen : o + (encS t).length ≤ s.size := by
    have := congrArg List.length hr
    rw [List.length_drop, List.length_append] at this
    have h1 : 0 < (encS t).length := by simp [encS]
    omega
  have hel : (encS t).length = (escL t.data.toList).length + 2 := by simp [encS]
  have hr1 : s.data.toList.drop o = 34 :: (escL t.data.toList ++ 34 :: r) := by rw [hr]; simp [encS]
  obtain ⟨hp1, hp2, hp3⟩ := peek_cons hr1
  have Hac := Lib.hid (accept_any db s ⟨#[34]⟩ o w h (by omega) hs (by decide))
  rw [show (ByteArray.mk #[34]).data.toList = [34] from rfl, hr1, pre_cons] at Hac
  have He := Lib.hid (fun W => expect_any db true W)
  have Hr := Lib.hid (And.intro hp3 (And.intro hlen hel))
  have HT := Lib.hid (And.intro hT hTd)
  have Hu := Lib.hid hu
  have hdb := lt_of_obj h
  have Hdb := Lib.hid hdb
  clear h hr hr1 hp1 hp3 hT hTd hu hlen hel hp2 hdb
  go_enter Tryd.func39, Tryd.ntmps39
  go_wp2_with fail
  refine Hac.out.mono ?_
  rintro e w1 ⟨rfl, hd1, hc1⟩
  have H1 : Hid (DS w1 db s (o + 1) ∧ Chg [db] w w1) := Lib.hid ⟨hd1, hc1⟩
  clear hd1 hc1
  go_wp2_with fail
  refine (He.out w1).mono ?_
  rintro e w1' ⟨rfl, rfl⟩
  obtain ⟨w2, hw2⟩ : ∃ x, x = w1'.alloc (.cells #[.pointer none, .slice none 0 0] 49 (0, 0)) := ⟨_, rfl⟩
  obtain ⟨b, hb⟩ : ∃ x, x = w1'.heap.size := ⟨_, rfl⟩
  have hc2 : Chg [] w1' w2 := by rw [hw2]; exact (Chg.refl _ _).alloc _
  have hb2 : w2.heap[b]? = some (.cells #[.pointer none, .slice none 0 0] 49 (0, 0)) := by rw [hw2, hb]; exact heap_at _ _ _ rfl
  have hbw : BW b b [] w2 := Or.inl ⟨Nat.le_refl _, .slice none 0 0, hb2, World.ownsRow_nil _ _ _ _, by simp [Value.ownBlock]⟩
  have HTS : Hid (TS b b db s (o + 1) [] w2 w2) := Lib.hid ⟨H1.out.1.new hc2, hbw, ChgP.refl _ _, by rw [hb]; exact hc2.size⟩
  have Hbz := Lib.hid (show b = w1'.heap.size ∧ w.heap.size ≤ b ∧ db < b ∧ Chg [db] w w2 from ⟨hb, by rw [hb]; exact H1.out.2.size, by have h1 := Hdb.out; have h2 := H1.out.2.size; omega, H1.out.2.new hc2⟩)
  clear hc2 hb2 hbw
  go_wp2_with fail
  rw [← hw2, ← hb]
  clear hw2 hb
  have hHR : Hid (([] : List UInt8) = t.data.toList.take 0 ∧ s.data.toList.drop (o + 1) = escL (t.data.toList.drop 0) ++ 34 :: r) := Lib.hid ⟨rfl, by rw [Hr.out.1, List.drop_zero]⟩
  go_loopw [] (fun wr => ∃ (k q : Nat) (l : List UInt8), k ≤ t.size ∧ Hid (TS b b db s q l w2 wr) ∧ Hid (l = t.data.toList.take k ∧ s.data.toList.drop q = escL (t.data.toList.drop k) ++ 34 :: r)) (fun wr => s.size - offW wr db)
  case atStart => exact ⟨0, o + 1, [], by omega, HTS, hHR⟩
  case round =>
    obtain ⟨k, q, l, hk, HT1, HL⟩ := hrel
    have c0 := HT1.out.ds.c0
    have c1 := HT1.out.ds.c1
    have f1 := HT1.out.ds.fz 1
    have lb := lt_of_cell c0
    have hoff := HT1.out.ds.off
    have htl : t.data.toList.length = t.size := rfl
    have hll : l.length ≤ 100000 := by
      have h1 := congrArg List.length HL.out.1
      have h2 := congrArg List.length Hr.out.1
      rw [List.length_take] at h1
      rw [List.length_drop, List.length_append] at h2
      have h3 := escL_len t.data.toList
      omega
    by_cases hlt : k < t.size
    · have hkl : k < t.data.toList.length := hlt
      have hed := escL_drop hkl
      obtain ⟨c, hc⟩ : ∃ c, c = t.data.toList[k] := ⟨_, rfl⟩
      rw [← hc] at hed
      have htk : t.data.toList.take (k + 1) = t.data.toList.take k ++ [c] := by rw [List.take_add_one, List.getElem?_eq_getElem hkl, hc]; rfl
      have hcu : c.toNat.toUInt8 = c := by simp [Nat.toUInt8]
      by_cases hes : c.toNat = 34 ∨ c.toNat = 92 ∨ c.toNat < 32
      · have hdq : s.data.toList.drop q = 92 :: (escT c.toNat ++ (escL (t.data.toList.drop (k + 1)) ++ 34 :: r)) := by rw [HL.out.2, hed, escN_esc hes]; simp
        obtain ⟨hp1, hp2, hp3⟩ := peek_cons hdq
        have hgq : s[q].toNat = 92 := by rw [get_of_drop hdq hp2]; rfl
        have hij : (q : Int) < s.size := by omega
        have hi0 : (0 : Int) ≤ q := by omega
        have hqd : decide ((q : Int) < s.size) = true := decide_eq_true hij
        have hqn : decide (q < s.size) = true := decide_eq_true hp2
        have Hpl := Lib.hid (And.intro hp3 (And.intro hes (And.intro htk (And.intro hcu htl))))
        clear hed hdq hp1 hp3 hc htk hcu hes
        go_upto_region 3 with fail
        go_quiet ((go_at_call 27; (refine Calls.quiet_of_same (He.out _))))
        generalize hwy : wr.drewN _ = wy
        have hcy : Chg [] wr wy := by rw [← hwy]; exact (Chg.refl _ _).drewN _
        have HTy := Lib.hid (HT1.out.new hcy)
        have c0 := HTy.out.ds.c0
        have c1 := HTy.out.ds.c1
        clear hwy hcy
        go_upto_region 4 with fail
        go_quiet (fail)
        generalize hwz : wy.drewN _ = wz
        have hcz : Chg [] wy wz := by rw [← hwz]; exact (Chg.refl _ _).drewN _
        have HTz := Lib.hid (HTy.out.new hcz)
        have c0 := HTz.out.ds.c0
        have c1 := HTz.out.ds.c1
        have f1 := HTz.out.ds.fz 1
        have lb := lt_of_cell c0
        have HT3 : Hid (TS b b db s (q + 1) l w2 (wz.setCell ⟨db, 1, none⟩ (.int .i64 ((q : Int) + 1)))) := Lib.hid (HTz.out.db (set_chg _ _ _) (HTz.out.ds.setI (by omega)) Hbz.out.2.2.1)
        clear hwz hcz
        go_wp2_with fail
        refine (esc_yes b b db s (q + 1) c.toNat l w2 _ _ HT3.out Hbz.out.2.2.1 hs hll Hpl.out.2.1 Hpl.out.1).mono ?_
        rintro e w5 ⟨rfl, hT5⟩
        have H5 := Lib.hid hT5
        clear hT5
        go_wp2_with fail
        refine ⟨⟨k + 1, _, _, by omega, H5, Lib.hid ⟨by rw [HL.out.1, Hpl.out.2.2.1, Hpl.out.2.2.2.1], ?_⟩⟩, ?_⟩
        · rw [← List.drop_drop, Hpl.out.1, List.drop_left]
        · rw [H5.out.ds.off, hoff]; omega
      · have hesn : ¬ (c.toNat = 34 ∨ c.toNat = 92 ∨ c.toNat < 32) := hes
        have hdq : s.data.toList.drop q = c :: (escL (t.data.toList.drop (k + 1)) ++ 34 :: r) := by rw [HL.out.2, hed, escN_plain hes, hcu]; simp
        obtain ⟨hp1, hp2, hp3⟩ := peek_cons hdq
        have hgq : s[q].toNat = c.toNat := by rw [get_of_drop hdq hp2]
        obtain ⟨a, ha⟩ : ∃ a, a = c.toNat := ⟨_, rfl⟩
        rw [← ha] at hgq hes
        have ha256 : a < 256 := by rw [ha]; exact c.toNat_lt
        have hau : a.toUInt8 = c := by rw [ha, hcu]
        have hij : (q : Int) < s.size := by omega
        have hi0 : (0 : Int) ≤ q := by omega
        have hqd : decide ((q : Int) < s.size) = true := decide_eq_true hij
        have hqn : decide (q < s.size) = true := decide_eq_true hp2
        have ha32 : decide ((32 : Int) ≤ (a : Int)) = true := decide_eq_true (by omega)
        have ha32n : decide (32 ≤ a) = true := decide_eq_true (by omega)
        have ha34 : ((a : Int) == 34) = false := by simp; omega
        have ha92 : ((a : Int) == 92) = false := by simp; omega
        have ha34n : (a == 34) = false := by simp; omega
        have ha92n : (a == 92) = false := by simp; omega
        have Hpl := Lib.hid (And.intro hp3 (And.intro htk (And.intro hau htl)))
        clear hed hdq hp1 hp3 hc htk hcu hes hesn ha hau
        go_upto_region 3 with fail
        go_quiet ((go_at_call 27; (refine Calls.quiet_of_same (He.out _))))
        generalize hwy : wr.drewN _ = wy
        have hcy : Chg [] wr wy := by rw [← hwy]; exact (Chg.refl _ _).drewN _
        have HTy := Lib.hid (HT1.out.new hcy)
        have c0 := HTy.out.ds.c0
        have c1 := HTy.out.ds.c1
        clear hwy hcy
        go_upto_region 4 with fail
        go_quiet (fail)
        generalize hwz : wy.drewN _ = wz
        have hcz : Chg [] wy wz := by rw [← hwz]; exact (Chg.refl _ _).drewN _
        have HTz := Lib.hid (HTy.out.new hcz)
        have c0 := HTz.out.ds.c0
        have c1 := HTz.out.ds.c1
        have f1 := HTz.out.ds.fz 1
        have lb := lt_of_cell c0
        have HT3 : Hid (TS b b db s (q + 1) l w2 (wz.setCell ⟨db, 1, none⟩ (.int .i64 ((q : Int) + 1)))) := Lib.hid (HTz.out.db (set_chg _ _ _) (HTz.out.ds.setI (by omega)) Hbz.out.2.2.1)
        clear hwz hcz
        go_wp2_with fail
        refine (wb_any b b l a _ HT3.out.bw ha256 (by omega) HT3.out.B).mono ?_
        rintro e w5 ⟨rfl, hb5, hc5, _⟩
        have H5 := Lib.hid (HT3.out.wr hb5 hc5 Hbz.out.2.2.1)
        clear hb5 hc5
        go_wp2_with fail
        refine ⟨⟨k + 1, _, _, by omega, H5, Lib.hid ⟨by rw [HL.out.1, Hpl.out.2.1, Hpl.out.2.2.1], Hpl.out.1⟩⟩, ?_⟩
        rw [H5.out.ds.off, hoff]; omega
    · have hke : k = t.size := by omega
      have hdq : s.data.toList.drop q = 34 :: r := by rw [HL.out.2, List.drop_of_length_le (show t.data.toList.length ≤ k by omega)]; rfl
      obtain ⟨hp1, hp2, hp3⟩ := peek_cons hdq
      have hgq : s[q].toNat = 34 := by rw [get_of_drop hdq hp2]; rfl
      have hij : (q : Int) < s.size := by omega
      have hi0 : (0 : Int) ≤ q := by omega
      have hqd : decide ((q : Int) < s.size) = true := decide_eq_true hij
      have hqn : decide (q < s.size) = true := decide_eq_true hp2
      have hle : l = t.data.toList := by rw [HL.out.1, List.take_of_length_le (by omega)]
      have hqe : q + 1 = o + (encS t).length := by
        have h1 := congrArg List.length hp3
        have h2 := congrArg List.length Hr.out.1
        rw [List.length_drop] at h1 h2
        simp only [List.length_append, List.length_cons] at h2
        have h3 := Hr.out.2.2
        have h4 := Hr.out.2.1
        have h5 : s.data.toList.length = s.size := rfl
        omega
      have Hle := Lib.hid (And.intro hle hqe)
      clear hdq hp1 hp3 hke hle hqe
      go_upto_region 3 with fail
      go_quiet ((go_at_call 27; (refine Calls.quiet_of_same (He.out _))))
      generalize hwy : wr.drewN _ = wy
      have hcy : Chg [] wr wy := by rw [← hwy]; exact (Chg.refl _ _).drewN _
      have HTy := Lib.hid (HT1.out.new hcy)
      have c0 := HTy.out.ds.c0
      have c1 := HTy.out.ds.c1
      clear hwy hcy
      go_upto_region 4 with fail
      go_quiet (fail)
      generalize hwz : wy.drewN _ = wz
      have hcz : Chg [] wy wz := by rw [← hwz]; exact (Chg.refl _ _).drewN _
      have HTz := Lib.hid (HTy.out.new hcz)
      have c0 := HTz.out.ds.c0
      have c1 := HTz.out.ds.c1
      have f1 := HTz.out.ds.fz 1
      have lb := lt_of_cell c0
      have HT3 : Hid (TS b b db s (q + 1) l w2 (wz.setCell ⟨db, 1, none⟩ (.int .i64 ((q : Int) + 1)))) := Lib.hid (HTz.out.db (set_chg _ _ _) (HTz.out.ds.setI (by omega)) Hbz.out.2.2.1)
      clear hwz hcz
      go_wp2_with fail
      have hlt : (⟨l.toArray⟩ : ByteArray) = t := by rw [Hle.out.1]
      have Hlt := Lib.hid hlt
      have Hend : Hid (DS (wz.setCell ⟨db, 1, none⟩ (.int .i64 ((q : Int) + 1))) db s (o + (encS t).length)) := Lib.hid (by rw [← Hle.out.2]; exact HT3.out.ds)
      have hcg : ChgP (LB b db) w2 (wz.setCell ⟨db, 1, none⟩ (.int .i64 ((q : Int) + 1))) := HT3.out.chg.mono fun k hk => hk.imp id fun h => h.1
      have Hcg := Lib.hid hcg
      have hTb := HT.out.1
      have hts : t.size ≤ maxLen := by
        have h1 := escL_len t.data.toList
        have h2 := Hr.out.2.1
        have h3 := Hr.out.2.2
        have h4 : t.data.toList.length = t.size := rfl
        unfold maxLen
        omega
      have Hts := Lib.hid hts
      have hF := Lib.hid (Lib.IsBuilderF.of HT3.out.bw)
      have hBs := Lib.hid HT3.out.B
      clear hts hlt hTb hcg
      refine (Tryd.Builder_String_any_f b b l _ hF.out hBs.out).mono ?_
      rintro e w5 ⟨rfl, hb5, hw5⟩
      rw [Hlt.out]
      have H5 : Hid (ChgP (LB b db) w2 w5 ∧ DS w5 db s (o + (encS t).length) ∧ Lib.IsBuilderF 49 5 b b (Lib.byteCells l) w5 ∧ b ≤ w5.heap.size) := Lib.hid ⟨Hcg.out.trans (below_lb hw5), (hw5.block db Hbz.out.2.2.1).trans Hend.out, hb5, Nat.le_trans hBs.out hw5.size⟩
      clear hb5 hw5
      have Hvs : Hid (Calls Tryd.prog 44 #[.string t] w5 fun e w' => e = .returned (.bool (u8 t)) ∧ Chg [] w5 w') := Lib.hid (valid_str t w5 Hts.out (tb_lb HT.out.1 HT.out.2 Hbz.out.2.1 Hbz.out.2.2.2 H5.out.1))
      go_wp2_with fail
      refine Hvs.out.mono ?_
      rintro e w6 ⟨rfl, hc6⟩
      rw [Hu.out]
      have H6 : Hid (ChgP (LB b db) w2 w6 ∧ DS w6 db s (o + (encS t).length) ∧ Lib.IsBuilderF 49 5 b b (Lib.byteCells l) w6 ∧ b ≤ w6.heap.size) := Lib.hid ⟨H5.out.1.trans hc6.p, H5.out.2.1.new hc6, bldF_same H5.out.2.2.1 hc6, Nat.le_trans H5.out.2.2.2 hc6.size⟩
      clear hc6
      go_wp2_with fail
      refine (He.out w6).mono ?_
      rintro e w7 ⟨rfl, rfl⟩
      go_wp2_with fail
      refine (Tryd.Builder_String_any_f b b l _ H6.out.2.2.1 H6.out.2.2.2).mono ?_
      rintro e w8 ⟨rfl, hb8, hw8⟩
      rw [Hlt.out]
      have H8 : Hid (ChgP (LB b db) w2 w8 ∧ DS w8 db s (o + (encS t).length)) := Lib.hid ⟨H6.out.1.trans (below_lb hw8), (hw8.block db Hbz.out.2.2.1).trans H6.out.2.1⟩
      clear hb8 hw8
      go_wp2_with fail
      go_ret
      exact ⟨rfl, H8.out.2, chg_lb Hbz.out.2.1 Hbz.out.2.2.2 H8.out.1⟩
end Go.Proofs.YtpnaegfldkjikaaDoor.Jv
