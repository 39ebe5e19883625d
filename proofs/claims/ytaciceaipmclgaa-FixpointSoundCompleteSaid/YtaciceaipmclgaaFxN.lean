/- FixpointSoundComplete: the law's walk. -/
import Derived.Test.YtaciceaipmclgaaFxL
import Derived.Test.YtaciceaipmclgaaMod
import Derived.Deep.RegionLaw
import Derived.Test.YtaciceaipmclgaaStep
namespace Go.Proofs.Ytaciceaipmclgaa
open Go.RowKit Go.Shelf
set_option linter.unusedVariables false
/-- what the loop keeps: the first k lists have one more rule -/
structure ExtR (R : Rules) (r : Rule) (ge k : Nat) (w3 wr : World) (V : Nat → Value) : Prop where
  row : wr.rowIs ge 39 R.length V
  lst : ∀ j, j < k → RuleL (fun g => g ≠ ge) wr (V j) (R.getD j [] ++ [r])
  chg : Chg [] w3 wr
theorem ExtR.step {R : Rules} {r : Rule} {ge k : Nat} {w3 wr w12 : World} {V : Nat → Value} (h : ExtR R r ge k w3 wr V) (hge : w3.heap.size ≤ ge) {v : Value} (hc : Chg [] wr w12) (hl : RuleL (fun g => g ≠ ge) w12 v (R.getD k [] ++ [r])) (hk : k < R.length) :
    ExtR R r ge (k + 1) w3 (w12.setCell ⟨ge, k, none⟩ v) (fun j => if j = k then v else V j) := by
  have hc2 : Chg [ge] w12 (w12.setCell ⟨ge, k, none⟩ v) := (Chg.refl _ _).setCell (Or.inl (by simp)) _
  refine ⟨(h.row.of_block (hc.block ge h.row.lt (by simp))).set k v, fun j hj => ?_, (h.chg.trans hc).setCell (Or.inr hge) _⟩
  by_cases hjk : j = k
  · subst hjk
    rw [if_pos rfl]
    exact hl.kept hc2 (by simp)
  · rw [if_neg hjk]
    exact ((h.lst j (by omega)).kept hc (by simp)).kept hc2 (by simp)
theorem ExtR.rules {R : Rules} {r : Rule} {ge : Nat} {w3 wr : World} {V : Nat → Value} (h : ExtR R r ge R.length w3 wr V) (hn : R.length ≤ 60) : RulesAt (fun _ => True) wr (.slice (some ⟨ge, 0, none⟩) R.length R.length) (R.map fun l => l ++ [r]) := by
  refine ⟨_, _, by rw [List.length_map], by rw [List.length_map]; exact Nat.le_refl _, by rw [List.length_map]; unfold maxLen; omega, fun _ => ⟨ge, 0, rfl, trivial, fun i hi => ?_⟩⟩
  rw [List.length_map] at hi
  refine ⟨V i, by rw [Nat.zero_add]; exact h.row.cell hi, ?_⟩
  have e : (R.map fun l => l ++ [r]).getD i [] = R.getD i [] ++ [r] := by
    rw [List.getD_eq_getElem?_getD, List.getElem?_map, List.getElem?_eq_getElem hi, List.getD_eq_getElem?_getD, List.getElem?_eq_getElem hi]; rfl
  rw [e]
  exact (h.lst i hi).imp fun _ _ => trivial
set_option maxRecDepth 100000 in
set_option maxHeartbeats 4000000 in
theorem sound_any (p : Nat → Prop) (w : World) (R : Rules) (v u : Value) (x y : Int) (r : Rule) (hR : RulesAt p w v R) (hu : Ints p w u r.2) (hp : ∀ k, p k → k < w.heap.size) :
    Calls Try.prog 5 #[v, .int .i64 x, .int .i64 y, .agg #[.int .i64 r.1, u]] w fun e w' => e = .returned (.bool true) ∧ Chg [] w w' := by
  obtain ⟨av, capv, rfl⟩ : ∃ a cap, v = .slice a R.length cap := by obtain ⟨a, cap, h, _⟩ := hR; exact ⟨a, cap, h⟩
  obtain ⟨a3, cap3, rfl⟩ := SlF.shape hu
  have hlm : R.length ≤ maxLen := by obtain ⟨a, cap, h, _, h2, _⟩ := hR; exact h2
  unfold maxLen at hlm
  obtain ⟨i0, hi0, hz0, hz1, hz2⟩ := info_parts Try.infoRule
  have hc0 : Chg [] w (w.alloc (.cells #[.int .i64 r.1, .slice a3 r.2.length cap3] 31)) := (Chg.refl [] w).alloc _
  have b0 : (w.alloc (.cells #[.int .i64 r.1, .slice a3 r.2.length cap3] 31)).cell? ⟨w.heap.size, 0, none⟩ = some (.int .i64 r.1) := cell_of_heap (heap_at _ _ _ rfl) rfl
  have b1 : (w.alloc (.cells #[.int .i64 r.1, .slice a3 r.2.length cap3] 31)).cell? ⟨w.heap.size, 1, none⟩ = some (.slice a3 r.2.length cap3) := cell_of_heap (heap_at _ _ _ rfl) rfl
  have hs0 : (w.alloc (.cells #[.int .i64 r.1, .slice a3 r.2.length cap3] 31)).heap.size = w.heap.size + 1 := by simp
  have Hi0 := Lib.hid hi0
  have Hz0 := Lib.hid hz0
  have Hz1 := Lib.hid hz1
  have Hz2 := Lib.hid hz2
  have HR := Lib.hid (hR.kept hc0 (by simp))
  have Hu := Lib.hid (hu.kept hc0 (by simp))
  have Hc0 := Lib.hid hc0
  have Hb := Lib.hid (And.intro b0 (And.intro b1 hs0))
  clear hi0 hz0 hz1 hz2 hR hu hc0 b0 b1 hs0
  go_enter Try.func5, Try.ntmps5
  go_wp2_with fail
  refine (ruleExample_any _).mono ?_
  rintro e w1 ⟨rfl, c1⟩
  have HR1 := Lib.hid (HR.out.kept c1 (by simp))
  have Hu1 := Lib.hid (Hu.out.kept c1 (by simp))
  have Hc1 := Lib.hid (Hc0.out.trans c1)
  have b0 := (c1.cell (p := ⟨w.heap.size, 0, none⟩) (lt_of_cell Hb.out.1) (by simp)).trans Hb.out.1
  have b1 := (c1.cell (p := ⟨w.heap.size, 1, none⟩) (lt_of_cell Hb.out.2.1) (by simp)).trans Hb.out.2.1
  have hsz1 : w.heap.size < w1.heap.size := lt_of_cell b0
  have Hb1 := Lib.hid (And.intro b0 b1)
  clear c1 HR Hu Hc0 Hb b0 b1
  go_wp2_with fail
  refine (least_any p w1 R _ HR1.out (fun k hk => by have := hp k hk; omega)).mono ?_
  rintro e w2 ⟨hres, c2⟩
  have Hc2 := Lib.hid (Hc1.out.trans c2)
  rcases hres with ⟨hok, vS, S, rfl, hL, gs, rfl, hgs, hrow⟩ | ⟨_, c, hc, rfl⟩
  · have hn60 := hok.size
    by_cases hN : R.length = 0
    · have hN0 : ((R.length : Int) == 0) = true := by simpa using hN
      clear hlm
      go_wp2_with fail
      refine (ruleExample_any _).mono ?_
      rintro e w3 ⟨rfl, c3⟩
      go_wp2
      go_ret
      exact ⟨rfl, Hc2.out.trans c3⟩
    · have hN0 : ((R.length : Int) == 0) = false := by simp; intro h; exact hN (by simp [h])
      have HR2 := Lib.hid (HR1.out.kept c2 (by simp))
      have Hu2 := Lib.hid (Hu1.out.kept c2 (by simp))
      have hb1 := modI_bd x (R.length : Int) (by omega)
      have hb2 := modI_bd y 20 (by decide)
      obtain ⟨st, hst⟩ : ∃ k : Nat, modI x (R.length : Int) = k := ⟨(modI x (R.length : Int)).toNat, by omega⟩
      obtain ⟨el, hel⟩ : ∃ k : Nat, modI y 20 = k := ⟨(modI y 20).toNat, by omega⟩
      have hstb : st < R.length := by omega
      have helb : el < 20 := by omega
      have hm1 : ∀ W : World, Calls Try.prog 9 #[.int .i64 x, .int .i64 (R.length : Int)] W fun e w' => e = .returned (.int .i64 (st : Int)) ∧ W = w' := fun W => by rw [← hst]; exact mod_any x _ W (by omega) (by omega)
      have hm2 : ∀ W : World, Calls Try.prog 9 #[.int .i64 y, .int .i64 20] W fun e w' => e = .returned (.int .i64 (el : Int)) ∧ W = w' := fun W => by rw [← hel]; exact mod_any y 20 W (by decide) (by decide)
      have Hm := Lib.hid (And.intro hm1 hm2)
      have Hok := Lib.hid hok
      have HL := Lib.hid hL
      have Hrow := Lib.hid hrow
      have Hb2 := Lib.hid (And.intro ((c2.cell (p := ⟨w.heap.size, 0, none⟩) (lt_of_cell Hb1.out.1) (by simp)).trans Hb1.out.1) ((c2.cell (p := ⟨w.heap.size, 1, none⟩) (lt_of_cell Hb1.out.2) (by simp)).trans Hb1.out.2))
      have hs2 := c2.size
      clear hm1 hm2 hst hel hb1 hb2 c2 hok hL hrow HR1 Hu1 Hc1 Hb1
      go_wp2_with fail
      refine (Hm.out.1 _).mono ?_
      rintro e w' ⟨rfl, rfl⟩
      go_wp2_with fail
      refine (Hm.out.2 _).mono ?_
      rintro e w' ⟨rfl, rfl⟩
      have Hd := Lib.hid (callsIn_wide.1 (derive_in p w2 R (.slice av R.length capv) el st HR2.out Hok.out helb hstb))
      clear Hm
      go_wp2_with fail
      refine Hd.out.mono ?_
      rintro o w3 hpost
      have hSl : S.length = R.length := HL.out.len
      have hsu : S.getD st 0 ≤ univ := HL.out.bd _ (getD_mem (by omega) 0)
      have hB := bit_eq (S.getD st 0) el hsu
      obtain ⟨sv, hsv⟩ : ∃ n, S.getD st 0 = n := ⟨_, rfl⟩
      have he2 : (el : Int) < 20 := by omega
      have hst0 : (0 : Int) ≤ (st : Int) := by omega
      have hst1 : (st : Int) < (S.length : Int) := by omega
      rcases hpost with ⟨vp, Q, rfl, hQ, hV, h0, hlast, c3⟩ | ⟨rfl, ⟨St, hinv, hdone, hno⟩, c3⟩
      · have hd : dOf Q st = true := (dOf_iff _ _).2 ⟨_, getD_mem (show Q.length - 1 < Q.length by omega) dPS, hlast⟩
        rw [if_pos (hV.bit HL.out.sol hd), hsv] at hB
        have q0 := (Hrow.out.of_block (c3.block gs Hrow.out.lt (by simp))).cell (i := st) (by omega)
        rw [hsv] at q0
        have q0' : w3.cell? ⟨gs, st, none⟩ = some (.int .i64 (sv : Int)) := q0
        have HR3 := Lib.hid (HR2.out.kept c3 (by simp))
        have Hu3 := Lib.hid (Hu2.out.kept c3 (by simp))
        have Hc3 := Lib.hid (Hc2.out.trans c3)
        have Hb3 := Lib.hid (And.intro ((c3.cell (p := ⟨w.heap.size, 0, none⟩) (lt_of_cell Hb2.out.1) (by simp)).trans Hb2.out.1) ((c3.cell (p := ⟨w.heap.size, 1, none⟩) (lt_of_cell Hb2.out.2) (by simp)).trans Hb2.out.2))
        have HQ := Lib.hid hQ
        have HV := Lib.hid (And.intro hV (And.intro h0 hlast))
        have hs3 := c3.size
        have hmk := run_make_row' (P := Try.prog) 22 39 (.slice none 0 0) 24 Try.underlying22 Try.infoRules rfl .i64 .i64 R.length (by omega) (by omega)
        have hmk' := hmk w3
        have hrE : ExtR R r w3.heap.size 0 w3 (w3.alloc (.cells (madeCells #[.slice none 0 0] R.length) 39)) (fun _ => .slice none 0 0) := ⟨World.rowIs_made w3 _ _ _, fun j hj => absurd hj (by omega), (Chg.refl [] w3).alloc _⟩
        have HrE := Lib.hid hrE
        clear q0 hsv hsu hmk hrE hQ hV h0 hlast hd Hb2 HR2 Hu2 Hc2 c3 Hd
        obtain ⟨aq, capq, rfl⟩ : ∃ a c, vp = .slice a Q.length c := by obtain ⟨a, c, h, _⟩ := HQ.out; exact ⟨a, c, h⟩
        go_wp2
        go_loopw [69] (fun i wr => ∃ k : Nat, k ≤ R.length ∧ i = .int .i64 (k : Nat) ∧ Hid (∃ V, ExtR R r w3.heap.size k w3 wr V)) (fun i _ => R.length - (intOf i).toNat)
        case atStart => exact ⟨0, by omega, rfl, Lib.hid ⟨_, HrE.out⟩⟩
        case round =>
          clear hmk' HrE
          obtain ⟨k, hk, rfl, Hrel⟩ := hrel
          obtain ⟨V, hE⟩ := Hrel.out
          by_cases hlt : k < R.length
          · obtain ⟨g, off, uu, rfl, t0w, hl⟩ := HR3.out.at k hlt
            have t0 := (hE.chg.cell (p := ⟨g, off + k, none⟩) (lt_of_cell t0w) (by simp)).trans t0w
            obtain ⟨au, capu, rfl, hml⟩ := hl.shape
            have hl20 := Hok.out.rules _ (getD_memb hlt)
            have hlr := hl.kept hE.chg (by simp)
            have hur := Hu3.out.kept hE.chg (by simp)
            have z0 := (hE.chg.cell (p := ⟨w.heap.size, 0, none⟩) (lt_of_cell Hb3.out.1) (by simp)).trans Hb3.out.1
            have z1 := (hE.chg.cell (p := ⟨w.heap.size, 1, none⟩) (lt_of_cell Hb3.out.2) (by simp)).trans Hb3.out.2
            obtain ⟨l, hle⟩ : ∃ l, R.getD k [] = l := ⟨_, rfl⟩
            rw [hle] at t0 hml hl20 hlr
            have lw : w.heap.size < wr.heap.size := lt_of_cell z0
            have lg : g < wr.heap.size := lt_of_cell t0
            have lge := hE.row.lt
            have y0 := hE.row.cell hlt
            have y1 := hE.row.frozen k
            have Hl := Lib.hid hlr
            have Hur := Lib.hid hur
            have HE := Lib.hid hE
            have Hle := Lib.hid hle
            unfold maxLen at hml
            have hk0 : (0 : Int) ≤ (k : Int) := by omega
            have hk1 : (k : Int) < (R.length : Int) := by omega
            have hpge : ∀ g, p g → g < w3.heap.size := fun g hg => by have := hp g hg; omega
            have Hpge := Lib.hid hpge
            clear hl hlr hur hE hle t0w Hrel hpge hB q0'
            go_wp2
            go_region_law (first
              | (rw [if_pos (by simp [Region.wanted])]; go_simp; refine (cloneR_any p _ _ l (by first | exact Hl.out.kept ((Chg.refl [] wr).drew) (by simp) | exact Hl.out.kept (((Chg.refl [] wr).drew).alloc _) (by simp)) hl20).mono ?_; rintro e w11 ⟨v11, us, rfl, hus, hown, hkk, hc11⟩; obtain ⟨a11, c11, rfl⟩ := own_shape hown; have hcw : Chg [] wr w11 := (by first | exact ((Chg.refl [] wr).drew).trans hc11 | exact (((Chg.refl [] wr).drew).alloc _).trans hc11); have x0 := (hcw.cell (p := ⟨w.heap.size, 0, none⟩) lw (by simp)).trans z0; have x1 := (hcw.cell (p := ⟨w.heap.size, 1, none⟩) lw (by simp)).trans z1; have lw11 : w.heap.size < w11.heap.size := (Nat.lt_of_lt_of_le lw hcw.size); have hle11 := hcw.size; have Hown11 := Lib.hid (ownsRow_le hown (b' := wr.heap.size) (by first | exact Nat.le_refl _ | exact Nat.le_of_lt (by simp) | simp)); have Hus := Lib.hid hus; have Hkk := Lib.hid hkk; have Hcw := Lib.hid hcw; have Hc11 := Lib.hid hc11; clear hown hus hkk hcw hc11)
              | (refine step_append_own rfl _ _ _ (by rfl) wr.heap.size 31 i0 (.agg #[.int .i64 0, .slice none 0 0]) 2 32 Try.underlying39 Hi0.out Hz0.out Hz1.out Hz2.out rfl (by decide) (.slice a11 l.length c11) l.length (flatP us) (by rfl) (Hown11.out.alloc _) ⟨w11.heap.size, 0, none⟩ 1 1 [.int .i64 r.1, .slice a3 r.2.length cap3] (by rfl) (by rfl) (cell_two_new w11 _ _ _) (by simp [Value.oneCell']) (by unfold maxLen; omega) (by omega) (by first | omega | (simp; omega)) ?_; intro v12 w12 hown12 hgr12; obtain ⟨hc12, hl12⟩ := ext_app (Hcw.out.alloc _) (Hown11.out.alloc _) Hus.out hl20 (fun q hq => ⟨(Hkk.out q hq).1, (Hkk.out q hq).2.kept ((Chg.refl [] w11).alloc _) (by simp)⟩) (SlF.kept Hur.out (Hcw.out.alloc _) (by simp)) Hpge.out lge hgr12 hown12; obtain ⟨a12, c12, rfl⟩ := own_shape hown12; have hr12 := HE.out.row.of_block (hc12.block w3.heap.size lge (by simp)); have y2 := hr12.cell hlt; have y3 := hr12.frozen k; have lge12 : w3.heap.size < w12.heap.size := Nat.lt_of_lt_of_le lge hc12.size; have Hc12 := Lib.hid hc12; have Hl12 := Lib.hid hl12; clear hown12 hgr12 hc12 hl12 hr12)
              | (refine step_append_own rfl _ _ _ (by rfl) wr.heap.size 31 i0 (.agg #[.int .i64 0, .slice none 0 0]) 2 32 Try.underlying39 Hi0.out Hz0.out Hz1.out Hz2.out rfl (by decide) (.slice a11 l.length c11) l.length (flatP us) (by rfl) Hown11.out ⟨wr.heap.size, 0, none⟩ 1 1 [.int .i64 r.1, .slice a3 r.2.length cap3] (by rfl) (by rfl) (fun j u hj => (Hc11.out.cell (lt_of_cell (cell_two_new wr.drew _ _ _ j u hj)) (by simp)).trans (cell_two_new wr.drew _ _ _ j u hj)) (by simp [Value.oneCell']) (by unfold maxLen; omega) (by omega) (by first | omega | (simp; omega)) ?_; intro v12 w12 hown12 hgr12; obtain ⟨hc12, hl12⟩ := ext_app Hcw.out Hown11.out Hus.out hl20 (fun q hq => ⟨(Hkk.out q hq).1, (Hkk.out q hq).2⟩) (SlF.kept Hur.out Hcw.out (by simp)) Hpge.out lge hgr12 hown12; obtain ⟨a12, c12, rfl⟩ := own_shape hown12; have hr12 := HE.out.row.of_block (hc12.block w3.heap.size lge (by simp)); have y2 := hr12.cell hlt; have y3 := hr12.frozen k; have lge12 : w3.heap.size < w12.heap.size := Nat.lt_of_lt_of_le lge hc12.size; have Hc12 := Lib.hid hc12; have Hl12 := Lib.hid hl12; clear hown12 hgr12 hc12 hl12 hr12))
            all_goals
              go_wp2
              exact ⟨⟨k + 1, by omega, by go_num, Lib.hid ⟨_, HE.out.step (Nat.le_refl _) Hc12.out (by rw [Hle.out]; exact Hl12.out) hlt⟩⟩, by simp [intOf]; omega⟩
          · obtain rfl : k = R.length := by omega
            have hRR := hE.rules hn60
            have Hc4 := Lib.hid (Hc3.out.trans hE.chg)
            have HR4 := Lib.hid (HR3.out.kept hE.chg (by simp))
            have HQ4 := Lib.hid (HQ.out.kept hE.chg (by simp))
            have HRR := Lib.hid hRR
            have HE := Lib.hid hE
            clear hRR hE Hrel hB q0'
            go_wp2_with fail
            refine (ruleExample_any _).mono ?_
            rintro e w5 ⟨rfl, c5⟩
            have HRR5 := Lib.hid (HRR.out.kept c5 (by simp))
            have HQ5 := Lib.hid (HQ4.out.kept c5 (by simp))
            have Hc5 := Lib.hid (Hc4.out.trans c5)
            have Hv := Lib.hid (verify_any p _ w5 R (.slice av R.length capv) (.slice aq Q.length capq) el st Q (HR4.out.kept c5 (by simp)) Hok.out helb HQ5.out HV.out.1 HV.out.2.1 HV.out.2.2)
            clear c5
            go_wp2_with fail
            refine Hv.out.mono ?_
            rintro e w6 ⟨rfl, c6⟩
            have HRR6 := Lib.hid (HRR5.out.kept c6 (by simp))
            have HQ6 := Lib.hid (HQ5.out.kept c6 (by simp))
            have Hc6 := Lib.hid (Hc5.out.trans c6)
            have Hck := Lib.hid (check_any _ w6 _ _ HRR6.out)
            clear c6
            go_wp2_with fail
            refine Hck.out.mono ?_
            rintro e w7 ⟨c, rfl, hc, c7⟩
            have Hc7 := Lib.hid (Hc6.out.trans c7)
            by_cases hcz : c = 0
            · subst hcz
              have hokE := hc.1 rfl
              have HQ7 := Lib.hid (HQ6.out.kept c7 (by simp))
              have hV' := HV.out.1.more (R' := R.map fun l => l ++ [r]) (by rw [List.length_map]) r (fun i hi => by
                rw [List.getD_eq_getElem?_getD, List.getElem?_map, List.getElem?_eq_getElem hi, List.getD_eq_getElem?_getD, List.getElem?_eq_getElem hi]; rfl)
              have Hv2 := Lib.hid (verify_any _ _ w7 (R.map fun l => l ++ [r]) (.slice (some ⟨w3.heap.size, 0, none⟩) R.length R.length) (.slice aq Q.length capq) el st Q (HRR6.out.kept c7 (by simp)) hokE helb HQ7.out hV' HV.out.2.1 HV.out.2.2)
              clear hc c7 hokE hV'
              go_wp2_with fail
              refine Hv2.out.mono ?_
              rintro e w8 ⟨rfl, c8⟩
              go_wp2
              go_ret
              exact ⟨rfl, Hc7.out.trans c8⟩
            · have hcz1 : (c == 0) = false := beq_false_of_ne hcz
              have hcz2 : (c != 0) = true := by simp [hcz]
              clear hc c7
              go_wp2
              go_ret
              exact ⟨rfl, Hc7.out⟩
      · have hbf : (S.getD st 0).testBit el = false := by
          cases hb : (S.getD st 0).testBit el
          · rfl
          · rw [hdone.complete Hok.out helb HL.out hstb hb] at hno; cases hno
        rw [hbf] at hB
        rw [if_neg (by simp), hsv] at hB
        have q0 := (Hrow.out.of_block (c3.block gs Hrow.out.lt (by simp))).cell (i := st) (by omega)
        rw [hsv] at q0
        have q0' : w3.cell? ⟨gs, st, none⟩ = some (.int .i64 (sv : Int)) := q0
        have HR3 := Lib.hid (HR2.out.kept c3 (by simp))
        have Hc3 := Lib.hid (Hc2.out.trans c3)
        clear q0 hsv hsu hdone hinv hbf c3
        go_wp2_with fail
        refine (ruleExample_any _).mono ?_
        rintro e w4 ⟨rfl, c4⟩
        have Hv := Lib.hid (verify_nil p w4 R (.slice av R.length capv) (.int .i64 (st : Int)) (.int .i64 (el : Int)) (HR3.out.kept c4 (by simp)))
        have Hc4 := Lib.hid (Hc3.out.trans c4)
        clear c4
        go_wp2_with fail
        refine Hv.out.mono ?_
        rintro e w5 ⟨rfl, c5⟩
        go_wp2
        go_ret
        exact ⟨rfl, Hc4.out.trans c5⟩
  · have hc' : (c == 0) = false := beq_false_of_ne hc
    have hc'' : (c != 0) = true := by simp [hc]
    go_wp2_with fail
    refine (ruleExample_any _).mono ?_
    rintro e w3 ⟨rfl, c3⟩
    go_wp2
    go_ret
    exact ⟨rfl, Hc2.out.trans c3⟩
end Go.Proofs.Ytaciceaipmclgaa
