/- MemoEarlyCutoff: the law's walk. -/
import Derived.Test.YtdeodcomlakpaaaNbc
import Derived.Test.YtdeodcomlakpaaaNbe
import Derived.Test.YtdeodcomlakpaaaNfb
namespace Go.Proofs.Ytdeodcomlakpaaa
open Go.RowKit Go.ChangeMaps Go.MapKept
set_option linter.unusedVariables false
set_option linter.unusedSimpArgs false
theorem set_cnt (s : PS) (k : QK) (xs : List Int) (du : Int) : (setP s k xs du).cnt = s.cnt := by
  unfold setP
  split <;> rfl
theorem row_heap {w : World} {g n : Nat} {xs : List Int} (h : w.rowIs g 3 n (fun j => .int .i64 (xs.getD j 0))) (hl : xs.length = n) : w.heap[g]? = some (.cells (xs.map (Value.int .i64)).toArray 3 (0, 0)) := by
  obtain ⟨c, h1, h2, h3⟩ := h
  rw [h1]
  congr 2
  apply Array.ext
  · simp [h2, hl]
  · intro i a b
    have hi : i < n := by omega
    have := h3 i hi
    rw [Array.getElem?_eq_getElem a, Option.some.injEq] at this
    rw [this]
    simp [List.getD_eq_getElem?_getD, List.getElem?_eq_getElem (show i < xs.length by omega)]
set_option maxRecDepth 100000 in
set_option maxHeartbeats 16000000 in
theorem earlyLaw_any (p0 : Nat → Prop) (w : World) (inp : Int) (qs : List (List QO)) (ins : List Int) (q i0 nn : Int) (qv iv : Value) (hq : I3ss p0 w qv qs) (hi : IntsP p0 w iv ins) (hp0 : ∀ k, p0 k → k < w.heap.size) :
    Calls Try.prog 5 #[.agg #[.int .i64 inp, qv], iv, .int .i64 q, .int .i64 i0, .int .i64 nn] w fun e w' => e = .returned (.bool true) ∧ Chg [] w w' := by
  obtain ⟨av, capv, rfl, hlm, hlc⟩ := hq.shape
  have Hq := Lib.hid hq
  have Hi := Lib.hid hi
  have Hp0 := Lib.hid hp0
  have hc0 : Chg [] w (w.alloc (.cells #[.int .i64 inp, .slice av qs.length capv] 42)) := (Chg.refl [] w).alloc _
  have Hc0 := Lib.hid hc0
  clear hq hi hp0 hc0
  unfold maxLen at hlm
  go_enter Try.func5, Try.ntmps5
  go_wp2_with fail
  refine (memoExample_any _).mono ?_
  rintro e w1 ⟨rfl, c1⟩
  have m0 : w1.cell? ⟨w.heap.size, 0, none⟩ = some (.int .i64 inp) := (c1.cell (p := ⟨w.heap.size, 0, none⟩) (by simp) (by simp)).trans (cell_of_heap (heap_at _ _ _ rfl) rfl)
  have m1 : w1.cell? ⟨w.heap.size, 1, none⟩ = some (.slice av qs.length capv) := (c1.cell (p := ⟨w.heap.size, 1, none⟩) (by simp) (by simp)).trans (cell_of_heap (heap_at _ _ _ rfl) rfl)
  have lm := lt_of_cell m0
  have Hc1 := Lib.hid (Hc0.out.trans c1)
  clear c1
  go_wp2_with fail
  refine (usable_any (fun g => g < w1.heap.size) _ inp qs _ (Hq.out.old Hp0.out Hc1.out)).mono ?_
  rintro e w2 ⟨b, rfl, hb, c2⟩
  have n0 := (c2.cell (p := ⟨w.heap.size, 0, none⟩) lm (by simp)).trans m0
  have n1 := (c2.cell (p := ⟨w.heap.size, 1, none⟩) lm (by simp)).trans m1
  have ln := lt_of_cell n0
  have Hc2 := Lib.hid (Hc1.out.trans c2)
  clear c2 m0 m1 lm
  cases b with
  | false =>
    clear hb
    go_wp2_with fail
    refine (memoExample_any _).mono ?_
    rintro e w3 ⟨rfl, c3⟩
    go_wp2
    go_ret
    exact ⟨rfl, Hc2.out.trans c3⟩
  | true =>
    obtain ⟨hok, hl0, hi0⟩ := hb.1 rfl
    clear hb
    obtain ⟨N, rfl⟩ := Int.eq_ofNat_of_zero_le hok.inp.1
    have hN := hok.inp.2
    have hL := hok.size
    simp only at hN hL
    obtain ⟨qn, hqn, hmq⟩ := modN q qs.length (by omega) (by omega)
    obtain ⟨jn, hjn, hmi⟩ := modN i0 N (by omega) (by omega)
    have Hmq := Lib.hid hmq
    have Hmi := Lib.hid hmi
    obtain ⟨yn, hyn, hmy⟩ := modN nn 4 (by omega) (by omega)
    have Hmy := Lib.hid hmy
    clear hmy
    have Hok := Lib.hid hok
    have Hn := Lib.hid (And.intro ln (And.intro n0 n1))
    clear hmq hmi hok
    go_wp2_with fail
    refine (compile_any _ w2 N qs _ (Hq.out.old Hp0.out Hc2.out) Hok.out).mono ?_
    rintro e w3 ⟨bv, bq, qv', rfl, hm3, hc3⟩
    have n0 := (hc3.cell (p := ⟨w.heap.size, 0, none⟩) ln (by simp)).trans n0
    have n1 := (hc3.cell (p := ⟨w.heap.size, 1, none⟩) ln (by simp)).trans n1
    have ln := lt_of_cell n0
    have Hm3 := Lib.hid hm3
    have Hc3 := Lib.hid hc3
    clear hm3 hc3
    go_wp2_with fail
    refine (memoNew_any _ _ w3).mono ?_
    rintro e w4 ⟨b, d, rfl, hd, hpl, hcomp, hstop, hc4, hn4⟩
    have hdb : DbF ⟨(N : Int), qs⟩ w2 b w4 d := ⟨_, _, _, _, _, DbQ.make Hm3.out (fun g hg => hg.2) hd hpl hcomp hstop hc4 hn4, Hc3.out.trans hc4, fun g hg => Nat.le_trans Hc3.out.size (hn4 g (List.mem_append_left _ hg)), fun g hg => Nat.lt_of_lt_of_le hg.2 (hn4 b (List.mem_append_left _ (by simp [Dm.muts])))⟩
    have n0 := (hc4.cell (p := ⟨w.heap.size, 0, none⟩) ln (by simp)).trans n0
    have n1 := (hc4.cell (p := ⟨w.heap.size, 1, none⟩) ln (by simp)).trans n1
    have ln := lt_of_cell n0
    have Hdb := Lib.hid hdb
    have Hpl := Lib.hid hpl
    clear hd hpl hcomp hstop hc4 hn4 hdb
    go_wp2_with fail
    go_region_held3 (fun w' => w'.cell? ⟨w.heap.size, 0, none⟩ = some (.int .i64 (N : Int)) ∧ w'.cell? ⟨w.heap.size, 1, none⟩ = some (.slice av qs.length capv))
      (first | (go_keep; done) | (exact kS3))
      (first
        | (go_at_call 28; refine (fit_any p0 _ _ ins N (by omega) (IntsP.kept Hi.out (((Hc2.out.trans Hdb.out.chg).drew).p (S := fun _ => False)) (fun _ _ h => h))).mono ?_; rintro e w5 ⟨gf, rfl, hgf, hrf, cf⟩; have kS3 : w5.cell? ⟨w.heap.size, 0, none⟩ = some (.int .i64 (N : Int)) ∧ w5.cell? ⟨w.heap.size, 1, none⟩ = some (.slice av qs.length capv) := ⟨(cf.cell (p := ⟨w.heap.size, 0, none⟩) ln (by simp)).trans n0, (cf.cell (p := ⟨w.heap.size, 1, none⟩) ln (by simp)).trans n1⟩; have Hrf := Lib.hid hrf; have Hcf := Lib.hid ((Chg.refl [] w4).drew.trans cf); have Hgf := Lib.hid hgf; clear hrf cf hgf)
        | (go_at_call 15; with_reducible refine (Hmq.out _).mono ?_; rintro e w' ⟨rfl, rfl⟩)
        | (go_at_call 15; with_reducible refine (Hmi.out _).mono ?_; rintro e w' ⟨rfl, rfl⟩))
    all_goals
      have hlen := fitL_len ins N
      obtain ⟨row, hrow⟩ : ∃ row, row = fitL ins N := ⟨_, rfl⟩
      have hrl : row.length = N := by rw [hrow]; exact hlen
      have hgw : w4.heap.size ≤ gf := Hgf.out
      have hM : RunM ⟨(N : Int), qs⟩ w2 b gf w5 d row := by
        refine ⟨Hdb.out.new Hcf.out, by rw [hrl], row_heap (by rw [hrow]; exact Hrf.out) hrl, fun hm => by have := Hdb.out.mem.lt _ hm; omega, fun hm => by have := Hdb.out.mem.bound _ hm; omega, by have := Hdb.out.mem.lt b (by simp [Dm.muts]); omega, ?_⟩
        exact Nat.le_trans Hdb.out.chg.size hgw
      have hA : EA ⟨(N : Int), qs⟩ 0 d.pl row 0 := by rw [Hpl.out]; exact EA.empty Hok.out row
      have HM0 := Lib.hid hM
      have HA0 := Lib.hid hA
      have Hrl := Lib.hid hrl
      clear hlen hrow hrl hM hA kS3 n0 n1 ln hgw
      go_wp2_with fail
      clear Hrf Hcf Hgf
      go_loopw [56] (fun jj wr => ∃ (k : Nat) (d' : Dm) (row' : List Int), k ≤ N ∧ jj = .int .i64 (k : Nat) ∧ row'.length = N ∧ RunM ⟨(N : Int), qs⟩ w2 b gf wr d' row' ∧ EA ⟨(N : Int), qs⟩ k d'.pl row' k) (fun jj _ => N - (intOf jj).toNat)
      case atStart => exact ⟨0, d, row, by omega, rfl, Hrl.out, HM0.out, HA0.out⟩
      case round =>
        obtain ⟨k, d', row', hk, rfl, hrl, hM, hA⟩ := hrel
        have HM := Lib.hid hM
        have HA := Lib.hid hA
        by_cases hlt : k < N
        · have hk1 : (k : Int) < N := by omega
          have hkl : k < row'.length := by omega
          have G1 := hM.cell hkl
          have F1 := hM.frozen k
          have lgi := hM.lt
          have Hkl := Lib.hid hkl
          have Hrl' := Lib.hid hrl
          obtain ⟨x, hx⟩ : ∃ x, x = row'.getD k 0 := ⟨_, rfl⟩
          rw [← hx] at G1
          clear hx hM hA hrl hkl
          go_wp2_with fail
          refine (mod_any x 4 _ (by decide) (by decide)).mono ?_
          rintro e w6 ⟨rfl, rfl⟩
          obtain ⟨y, hy⟩ : ∃ y, y = modI x 4 := ⟨_, rfl⟩
          rw [← hy]
          clear hy
          go_wp2_with fail
          obtain ⟨w7, hw7⟩ : ∃ z, z = wr.setCell ⟨gf, k, none⟩ (.int .i64 y) := ⟨_, rfl⟩
          rw [← hw7]
          have hM7 := HM.out.store k y
          rw [← hw7] at hM7
          have G0 : w7.cell? ⟨gf, k, none⟩ = some (.int .i64 y) := by
            have h := hM7.cell (i := k) (by rw [List.length_set]; exact Hkl.out)
            rw [getD_setI _ _ _ Hkl.out, if_pos rfl] at h
            exact h
          have LG := lt_of_cell G0
          have HM7 := Lib.hid hM7
          clear hw7 hM7 G1 F1 lgi
          go_region_held3 (fun w' => w'.cell? ⟨gf, k, none⟩ = some (.int .i64 y))
            (first | (go_keep; done) | (exact kS10) | (exact kS9) | (exact kS8))
            (first
              | (go_at_call 25; refine (inputKey_any _ _).mono ?_; rintro e w8 ⟨rfl, c8⟩; have H8 := Lib.hid (((Chg.refl [] w7).drew).trans c8); have kS8 : w8.cell? ⟨gf, k, none⟩ = some (.int .i64 y) := (H8.out.cell (p := ⟨gf, k, none⟩) LG (by simp)).trans G0; clear c8)
              | (go_at_call 18; refine (number_any _ _).mono ?_; rintro e w9 ⟨a9, c9, rfl, hi9, cc9⟩; have H9 := Lib.hid (H8.out.trans cc9); have Hi9 := Lib.hid hi9; have kS9 : w9.cell? ⟨gf, k, none⟩ = some (.int .i64 y) := (H9.out.cell (p := ⟨gf, k, none⟩) LG (by simp)).trans G0; clear cc9 hi9)
              | (go_at_call 24; refine ((HM7.out.db.new H9.out).set (0, (k : Int), 0) _ [y] 0 (keyInOk (inp := (N : Int)) (idx := 0) (Or.inl ⟨rfl, by simp, hk1, rfl⟩) (by omega) (by omega)) rfl Hi9.out (by simp) (by omega) (by obtain ⟨_, hr, _⟩ := HA.out.run; have := hr.rev; omega)).mono ?_; rintro e w10 ⟨d10, hd10, hpl10, ha10, rfl⟩; have hM10 := (HM7.out.new H9.out).after hd10 ha10; have kS10 : w10.cell? ⟨gf, k, none⟩ = some (.int .i64 y) := (by have h := hM10.cell (i := k) (by rw [List.length_set]; exact Hkl.out); rw [getD_setI _ _ _ Hkl.out, if_pos rfl] at h; exact h); have H10 := Lib.hid (And.intro hM10 (show EA ⟨(N : Int), qs⟩ (k + 1) d10.pl (row'.set k y) (k + 1) by rw [hpl10]; exact HA.out.set hk1 Hkl.out y)); clear hd10 hpl10 ha10 hM10))
          all_goals
            clear G0 LG
            go_wp2_with fail
            go_roundw
            case rel => exact ⟨k + 1, d10, row'.set k y, by omega, by go_num, by rw [List.length_set]; exact Hrl'.out, H10.out.1, H10.out.2⟩
            case measure => simp only [intOf]; omega
        · obtain rfl : N = k := by omega
          have hk1 : ¬ ((N : Int) < N) := by omega
          have r0 := (hM.db.chg.cell (p := ⟨w.heap.size, 0, none⟩) Hn.out.1 (by simp)).trans Hn.out.2.1
          have r1 := (hM.db.chg.cell (p := ⟨w.heap.size, 1, none⟩) Hn.out.1 (by simp)).trans Hn.out.2.2
          have lr := lt_of_cell r0
          have Hrl' := Lib.hid hrl
          clear hM hA hrl
          go_wp2_with fail
          have hqs := Hq.out.old Hp0.out (Hc2.out.trans HM.out.db.chg)
          have hin := HM.out.ints Hok.out
          rw [Hrl'.out] at hin
          refine (reads_yes (fun g => g < wr.heap.size) _ ⟨N, qs⟩ row' qn _ _ hqs hin (fun k hk => hk) ⟨Hok.out, by rw [Hrl'.out], by omega, by simp only; omega⟩).mono ?_
          rintro e w6 ⟨v6, rfl, hk6, c6⟩
          have hkb6 := KeysB.make HM.out.db.mem hk6
          obtain ⟨a6, cp6, rfl, hlm6, hlc6⟩ := hk6.shape
          have HM6 := Lib.hid (HM.out.new c6)
          have HK6 := Lib.hid hkb6
          clear hqs hin hk6 c6 hkb6 r0 r1 lr
          go_wp2_with fail
          refine (queryKey_any _ _).mono ?_
          rintro e w7 ⟨rfl, c7⟩
          have HM7 := Lib.hid (HM6.out.new c7)
          have HK7 := Lib.hid (HK6.out.new c7)
          clear c7
          obtain ⟨s1, r1, hu1, hR1, hd1, hf1, ho1, hin1, hrev1, hver1⟩ := HA.out.got Hok.out rfl (by omega) hqn
          have HE1 := Lib.hid (And.intro hR1 (And.intro hd1 (And.intro hf1 (And.intro ho1 (And.intro hin1 (And.intro hrev1 hver1))))))
          have Hu1 := Lib.hid hu1
          clear hu1 hR1 hd1 hf1 ho1 hin1 hrev1 hver1
          go_wp2_with fail
          refine (HM7.out.getP Hok.out Hu1.out hqn).mono ?_
          rintro e w8 ⟨d8, a8, n8, c8, rfl, hM8, ha8, hpl8⟩
          have HM8 := Lib.hid hM8
          have HK8 := Lib.hid (HK7.out.after ha8)
          have hpl8' : d8.pl = s1.idle := by rw [hpl8, Hu1.out]
          have Hpl8 := Lib.hid hpl8'
          clear hM8 ha8 hpl8 hpl8'
          go_wp2_with fail
          refine (computations_any _ b d8 HM8.out.db.mem).mono ?_
          rintro e w' ⟨rfl, hww⟩
          rw [hww]
          clear hww
          have hin8 := HM8.out.ints Hok.out
          rw [Hrl'.out] at hin8
          go_wp2_with fail
          refine (cloneInts_any _ _ _ row' (by have := Hrl'.out; omega) (by have := Hrl'.out; omega) hin8).mono ?_
          rintro e w9 ⟨v9, rfl, hrow9, c9⟩
          have hM9 := HM8.out.new c9
          obtain ⟨gc, cap9, rfl, hgc9, hrb9⟩ := RowB.make HM8.out.db.mem hrow9 (by have := Hrl'.out; omega) (Nat.le_refl _) hM9.db.mem
          have HM9 := Lib.hid hM9
          have HRB9 := Lib.hid hrb9
          have HK9 := Lib.hid (HK8.out.new c9)
          have Hc89 := Lib.hid c9
          have Hgc9 := Lib.hid hgc9
          rw [Hrl'.out]
          clear hin8 hrow9 c9 hM9 hrb9 hgc9
          go_wp2_with fail
          refine (Hmy.out _).mono ?_
          rintro e w' ⟨rfl, hww⟩
          rw [← hww]
          clear hww
          have hjl : jn < row'.length := by have := Hrl'.out; omega
          have g0 := HRB9.out.cell hjl
          have f0 := HRB9.out.frozen jn
          have lg := HRB9.out.lt
          have hjc : jn < cap9 := by obtain ⟨cur, _, h2, _⟩ := HRB9.out; omega
          have hj1 : (jn : Int) < (N : Int) := by omega
          have Hjl := Lib.hid hjl
          clear hjl
          go_wp2_with fail
          obtain ⟨w10, hw10⟩ : ∃ z, z = w9.setCell ⟨gc, jn, none⟩ (.int .i64 (yn : Int)) := ⟨_, rfl⟩
          rw [← hw10]
          have hch : ChgP (fun g => g = gc) w9 w10 := by rw [hw10]; exact (ChgP.refl (fun g => g = gc) w9).setCell (p := ⟨gc, jn, none⟩) (Or.inl rfl) _
          have hgm : gc ∉ d8.muts b ∧ gc ∉ d8.imms ∧ gf < gc := ⟨HRB9.out.off, fun hm => by have := HM8.out.db.mem.bound _ hm; have := Hgc9.out; omega, by have := HM8.out.lt; have := Hgc9.out; omega⟩
          have hM10 := HM9.out.past hch (fun g hg => by subst hg; exact hgm)
          have hRB10 := HRB9.out.set Hjl.out (yn : Int)
          rw [← hw10] at hRB10
          have hK10 : KeysB b w10 d8 (.slice a6 (reads ⟨(N : Int), qs⟩ row' qn).length cp6) (reads ⟨(N : Int), qs⟩ row' qn) := (I3s.kept (S := fun g => w8.heap.size ≤ g) HK8.out ((Hc89.out.p (S := fun g => w8.heap.size ≤ g)).trans (hch.mono fun x hx => by subst hx; exact Hgc9.out)) (fun g hg => by have := hg.1; omega)).imp fun g hg => ⟨Nat.lt_of_lt_of_le hg.1 (Nat.le_trans Hc89.out.size hch.size), hg.2⟩
          have G0 : w10.cell? ⟨gc, jn, none⟩ = some (.int .i64 (yn : Int)) := by
            have h := hRB10.cell (i := jn) (by rw [List.length_set]; exact Hjl.out)
            rw [getD_setI _ _ _ Hjl.out, if_pos rfl] at h
            exact h
          have LG := lt_of_cell G0
          have HM10 := Lib.hid hM10
          have HRB10 := Lib.hid hRB10
          have HK10 := Lib.hid hK10
          clear hw10 hch hgm hM10 hRB10 hK10 g0 f0 lg
          go_region_held3 (fun w' => w'.cell? ⟨gc, jn, none⟩ = some (.int .i64 (yn : Int)))
            (first | (go_keep; done) | (exact kS13) | (exact kS12) | (exact kS11))
            (first
              | (go_at_call 25; refine (inputKey_any _ _).mono ?_; rintro e w11 ⟨rfl, c11⟩; have H11 := Lib.hid (((Chg.refl [] w10).drew).trans c11); have kS11 : w11.cell? ⟨gc, jn, none⟩ = some (.int .i64 (yn : Int)) := (H11.out.cell (p := ⟨gc, jn, none⟩) LG (by simp)).trans G0; clear c11)
              | (go_at_call 18; refine (number_any _ _).mono ?_; rintro e w12 ⟨a12, c12, rfl, hi12, cc12⟩; have H12 := Lib.hid (H11.out.trans cc12); have Hi12 := Lib.hid hi12; have kS12 : w12.cell? ⟨gc, jn, none⟩ = some (.int .i64 (yn : Int)) := (H12.out.cell (p := ⟨gc, jn, none⟩) LG (by simp)).trans G0; clear cc12 hi12)
              | (go_at_call 24; refine ((HM10.out.db.new H12.out).set (0, (jn : Int), 0) _ [(yn : Int)] 0 (keyInOk (inp := (N : Int)) (idx := 0) (Or.inl ⟨rfl, by simp, hj1, rfl⟩) (by omega) (by omega)) rfl Hi12.out (by simp) (by omega) (by rw [Hpl8.out]; have := HE1.out.1.rev; omega)).mono ?_; rintro e w13 ⟨d13, hd13, hpl13, ha13, rfl⟩; have hM13 := (HM10.out.new H12.out).after hd13 ha13; have hRB13 := (HRB10.out.new H12.out).after ha13; have kS13 : w13.cell? ⟨gc, jn, none⟩ = some (.int .i64 (yn : Int)) := (by have h := hRB13.cell (i := jn) (by rw [List.length_set]; exact Hjl.out); rw [getD_setI _ _ _ Hjl.out, if_pos rfl] at h; exact h); have Hpl13 := Lib.hid hpl13; have H13 := Lib.hid (And.intro hM13 (And.intro hRB13 (And.intro ((HK10.out.new H12.out).after ha13) (show EC ⟨(N : Int), qs⟩ (N + 2) d13.pl row' (row'.set jn (yn : Int)) qn r1 [] by rw [hpl13, Hpl8.out]; exact HA.out.start Hok.out rfl Hrl'.out hqn hjn (yn : Int) HE1.out.1 HE1.out.2.1 HE1.out.2.2.1 HE1.out.2.2.2.1 HE1.out.2.2.2.2.1 HE1.out.2.2.2.2.2.1 HE1.out.2.2.2.2.2.2)))); clear hd13 hpl13 ha13 hM13 hRB13))
          all_goals
            clear G0 LG
            obtain ⟨ks, hks⟩ : ∃ ks, ks = reads ⟨(N : Int), qs⟩ row' qn := ⟨_, rfl⟩
            obtain ⟨rowB, hrowB⟩ : ∃ rb, rb = row'.set jn (yn : Int) := ⟨_, rfl⟩
            have hkl : ks.length ≤ 80 := by rw [hks]; exact H13.out.2.2.2.len Hok.out
            have hrBl : rowB.length = N := by rw [hrowB, List.length_set]; exact Hrl'.out
            have hkin : ∀ x ∈ ks, KeyIn (N : Int) (qn : Int) x := by rw [hks]; exact reads_in Hok.out _ qn hqn
            rw [← hks, ← hrowB] at H13
            rw [← hks]
            have Hks := Lib.hid hks
            have HrowB := Lib.hid hrowB
            have HrBl := Lib.hid hrBl
            have Hkin := Lib.hid hkin
            have hcnt13 : d8.cnt ≤ d13.cnt := by
              have h : d13.pl.cnt = d8.pl.cnt := by rw [Hpl13.out]; exact (set_cnt _ _ _ _)
              exact Int.le_of_eq h.symm
            have Hcnt13 := Lib.hid hcnt13
            clear hks hrowB hrBl hkin hcnt13
            go_wp2_with fail
            go_loopw [108] (fun jj wr2 => ∃ (k : Nat) (d' : Dm), k ≤ ks.length ∧ jj = .int .i64 (k : Nat) ∧ RunM ⟨(N : Int), qs⟩ w2 b gf wr2 d' row' ∧ RowB b wr2 d' gc cap9 rowB ∧ KeysB b wr2 d' (.slice a6 ks.length cp6) ks ∧ EC ⟨(N : Int), qs⟩ (N + 2 + k) d'.pl row' rowB qn r1 (ks.take k) ∧ (∀ x ∈ ks.take k, PassK ⟨(N : Int), qs⟩ row' rowB x) ∧ d8.cnt ≤ d'.cnt) (fun jj _ => ks.length - (intOf jj).toNat)
            case atStart => exact ⟨0, d13, by omega, rfl, H13.out.1, H13.out.2.1, H13.out.2.2.1, H13.out.2.2.2, by simp, Hcnt13.out⟩
            case round =>
              obtain ⟨k, d', hk, rfl, hM, hRB, hKB, hEC, hps, hcn⟩ := hrel
              have HM := Lib.hid hM
              have HRB := Lib.hid hRB
              have HKB := Lib.hid hKB
              have HEC := Lib.hid hEC
              have Hps := Lib.hid hps
              have Hcn := Lib.hid hcn
              by_cases hlt : k < ks.length
              · have hk1 : (k : Int) < ks.length := by omega
                obtain ⟨g, off, rfl, hgp, x0, x1, x2⟩ := SlR.at hKB k hlt (0, 0, 0)
                obtain ⟨key, hkey⟩ : ∃ key, key = ks.getD k (0, 0, 0) := ⟨_, rfl⟩
                rw [← hkey] at x0 x1 x2
                have htk : ks.take (k + 1) = ks.take k ++ [key] := by rw [hkey]; exact fold_take_snoc ks k hlt _
                have hmem : key ∈ ks := by rw [hkey]; exact getD_memb hlt _
                have Htk := Lib.hid htk
                have Hmem := Lib.hid hmem
                have lg : g < wr.heap.size := lt_of_cell x0
                have hform := Hkin.out key hmem
                clear hM hRB hKB hEC hps hcn hgp hkey htk hmem
                obtain ⟨w14, hw14⟩ : ∃ z, z = wr.alloc (.cells #[.int .i64 key.1, .int .i64 key.2.1, .int .i64 key.2.2] 27) := ⟨_, rfl⟩
                have c14 : Chg [] wr w14 := by rw [hw14]; exact (Chg.refl [] wr).alloc _
                have hbx14 : Box b w14 d' wr.heap.size (.cells #[.int .i64 key.1, .int .i64 key.2.1, .int .i64 key.2.2] 27 (0, 0)) := by rw [hw14]; exact Box.make HM.out.db.mem _ _
                have HM14 := Lib.hid (HM.out.new c14)
                have HRB14 := Lib.hid (HRB.out.new c14)
                have HKB14 := Lib.hid (HKB.out.new c14)
                have HBX14 := Lib.hid hbx14
                clear c14 hbx14
                obtain ⟨k1, k2, k3⟩ := key
                rcases hform with ⟨f0, f1, f2, f3⟩ | ⟨f0, f1, f2, f3⟩
                · simp only at f0 f1 f2 f3 x0 x1 x2 hw14
                  subst f0 f3
                  obtain ⟨j, rfl⟩ := Int.eq_ofNat_of_zero_le f1
                  have hjN : j < N := by omega
                  have hjr : j < row'.length := by have := Hrl'.out; omega
                  have hjB : j < rowB.length := by have := HrBl.out; omega
                  have hjc : j < cap9 := by obtain ⟨cur, _, h2, _⟩ := HRB.out; omega
                  go_wp2_with fail
                  rw [← hw14]
                  have e0 : w14.cell? ⟨wr.heap.size, 0, none⟩ = some (.int .i64 0) := cell_of_heap HBX14.out.blk rfl
                  have e1 : w14.cell? ⟨wr.heap.size, 1, none⟩ = some (.int .i64 (j : Int)) := cell_of_heap HBX14.out.blk rfl
                  have e2 : w14.cell? ⟨wr.heap.size, 2, none⟩ = some (.int .i64 0) := cell_of_heap HBX14.out.blk rfl
                  have g1 := HM14.out.cell hjr
                  have g2 := HRB14.out.cell hjB
                  obtain ⟨xa, hxa⟩ : ∃ x, x = row'.getD j 0 := ⟨_, rfl⟩
                  obtain ⟨xb, hxb⟩ : ∃ x, x = rowB.getD j 0 := ⟨_, rfl⟩
                  rw [← hxa] at g1
                  rw [← hxb] at g2
                  have le := lt_of_cell e0
                  have Hx := Lib.hid (And.intro hxa hxb)
                  clear hw14 hxa hxb x0 x1 x2 lg
                  by_cases hxy : xa = xb
                  · have hne : (xa != xb) = false := by simp [hxy]
                    have Hxy := Lib.hid hxy
                    clear hxy
                    go_quiet (fail)
                    go_wp2_with fail
                    have cq : Chg [] w14 (w14.drewN nq) := (Chg.refl [] w14).drewN nq
                    refine ⟨⟨k + 1, d', by omega, by go_num, HM14.out.new cq, HRB14.out.new cq, HKB14.out.new cq, ?_, ?_, Hcn.out⟩, by simp only [intOf]; omega⟩
                    · rw [Htk.out]
                      exact HEC.out.skip rfl
                    · rw [Htk.out]
                      intro x hx
                      rcases List.mem_append.1 hx with hx | hx
                      · exact Hps.out x hx
                      · rw [List.mem_singleton.1 hx]
                        refine ⟨fun j' e => ?_, fun q' e => by simp at e⟩
                        have hjj : j = j' := by simp only [Prod.mk.injEq] at e; omega
                        subst hjj
                        rw [← Hx.out.1, ← Hx.out.2]
                        exact Hxy.out
                  · have hne : (xa != xb) = true := by simp [hxy]
                    clear hxy
                    go_quiet (fail)
                    go_wp2_with fail
                    refine (memoExample_any _).mono ?_
                    rintro e w16 ⟨rfl, c16⟩
                    go_wp2
                    go_ret
                    exact ⟨rfl, ((Hc2.out.trans HM14.out.db.chg).drewN nq).trans c16⟩
                · simp only at f0 f1 f2 f3 x0 x1 x2 hw14
                  subst f0 f3
                  obtain ⟨j, rfl⟩ := Int.eq_ofNat_of_zero_le f1
                  have hjq : j < qn := by omega
                  go_wp2_with fail
                  rw [← hw14]
                  have e0 : w14.cell? ⟨wr.heap.size, 0, none⟩ = some (.int .i64 1) := cell_of_heap HBX14.out.blk rfl
                  have e1 : w14.cell? ⟨wr.heap.size, 1, none⟩ = some (.int .i64 (j : Int)) := cell_of_heap HBX14.out.blk rfl
                  have e2 : w14.cell? ⟨wr.heap.size, 2, none⟩ = some (.int .i64 0) := cell_of_heap HBX14.out.blk rfl
                  have le := lt_of_cell e0
                  have hr0 := (HM14.out.db.chg.cell (p := ⟨w.heap.size, 0, none⟩) Hn.out.1 (by simp)).trans Hn.out.2.1
                  have hr1 := (HM14.out.db.chg.cell (p := ⟨w.heap.size, 1, none⟩) Hn.out.1 (by simp)).trans Hn.out.2.2
                  have lr := lt_of_cell hr0
                  clear hw14 x0 x1 x2 lg
                  go_quiet (fail)
                  go_wp2_with fail
                  obtain ⟨w15, hw15⟩ : ∃ z, z = w14.drewN nq := ⟨_, rfl⟩
                  have c15 : Chg [] w14 w15 := by rw [hw15]; exact (Chg.refl [] w14).drewN nq
                  rw [← hw15]
                  clear hw15 e0 e1 e2 le hr0 hr1 lr
                  have HM15 := Lib.hid (HM14.out.new c15)
                  have HRB15 := Lib.hid (HRB14.out.new c15)
                  have HKB15 := Lib.hid (HKB14.out.new c15)
                  have HBX15 := Lib.hid (HBX14.out.new c15)
                  clear c15
                  have hqs15 := Hq.out.old Hp0.out (Hc2.out.trans HM15.out.db.chg)
                  have hin15 := HM15.out.ints Hok.out
                  rw [Hrl'.out] at hin15
                  refine (eval_any (fun g => g < w15.heap.size) _ ⟨N, qs⟩ row' (j : Int) _ _ hqs15 hin15 (fun k hk => hk)).mono ?_
                  rintro e w16 ⟨h16 | h16, c16⟩
                  · obtain ⟨_, rfl⟩ := h16
                    have HM16 := Lib.hid (HM15.out.new c16)
                    have HRB16 := Lib.hid (HRB15.out.new c16)
                    have HKB16 := Lib.hid (HKB15.out.new c16)
                    have HBX16 := Lib.hid (HBX15.out.new c16)
                    obtain ⟨va, hva⟩ : ∃ va, val ⟨N, qs⟩ row' ((j : Int)).toNat = va := ⟨_, rfl⟩
                    rw [hva]
                    have Hva := Lib.hid hva
                    have hr0 := (HM16.out.db.chg.cell (p := ⟨w.heap.size, 0, none⟩) Hn.out.1 (by simp)).trans Hn.out.2.1
                    have hr1 := (HM16.out.db.chg.cell (p := ⟨w.heap.size, 1, none⟩) Hn.out.1 (by simp)).trans Hn.out.2.2
                    have lr := lt_of_cell hr0
                    have e1 : w16.cell? ⟨wr.heap.size, 1, none⟩ = some (.int .i64 (j : Int)) := cell_of_heap HBX16.out.blk rfl
                    clear hqs15 hin15 c16 hva
                    go_wp2_with fail
                    have hqs16 := Hq.out.old Hp0.out (Hc2.out.trans HM16.out.db.chg)
                    have hin16 := HRB16.out.ints
                    rw [HrBl.out] at hin16
                    refine (eval_any (fun g => g < w16.heap.size) _ ⟨N, qs⟩ rowB (j : Int) _ _ hqs16 hin16 (fun k hk => hk)).mono ?_
                    rintro e w17 ⟨h17 | h17, c17⟩
                    · obtain ⟨_, rfl⟩ := h17
                      have HM17 := Lib.hid (HM16.out.new c17)
                      have HRB17 := Lib.hid (HRB16.out.new c17)
                      have HKB17 := Lib.hid (HKB16.out.new c17)
                      have HBX17 := Lib.hid (HBX16.out.new c17)
                      obtain ⟨vb, hvb⟩ : ∃ vb, val ⟨N, qs⟩ rowB ((j : Int)).toNat = vb := ⟨_, rfl⟩
                      rw [hvb]
                      have Hvb := Lib.hid hvb
                      clear hqs16 hin16 c17 hvb hr0 hr1 lr e1
                      by_cases hab : va = vb
                      · have hne : (va != vb) = false := by simp [hab]
                        have Hab := Lib.hid hab
                        have e0 : w17.cell? ⟨wr.heap.size, 0, none⟩ = some (.int .i64 1) := cell_of_heap HBX17.out.blk rfl
                        have e1 : w17.cell? ⟨wr.heap.size, 1, none⟩ = some (.int .i64 (j : Int)) := cell_of_heap HBX17.out.blk rfl
                        have e2 : w17.cell? ⟨wr.heap.size, 2, none⟩ = some (.int .i64 0) := cell_of_heap HBX17.out.blk rfl
                        have le := lt_of_cell e0
                        clear hab
                        have hval : val ⟨N, qs⟩ row' j = val ⟨N, qs⟩ rowB j := by
                          have h1 := Hva.out
                          have h2 := Hvb.out
                          rw [Int.toNat_natCast] at h1 h2
                          rw [h1, h2]
                          exact Hab.out
                        have hN40 : (N : Int) ≤ 40 := Hok.out.inp.2
                        have hnb : N + 2 + k ≤ 900 := by omega
                        obtain ⟨sg, hug, hEg⟩ := HEC.out.get Hok.out hqn hnb (q' := j) (by rw [HEC.out.deps, ← Hks.out]; exact Hmem.out) hval
                        have Hval := Lib.hid hval
                        have Hug := Lib.hid hug
                        have HEg := Lib.hid hEg
                        have hcle := HEC.out.run.cntle Hok.out (by omega) (fun _ => false) (q := j) (by show j < qs.length; omega)
                        have Hcle := Lib.hid hcle
                        clear hval hug hEg hcle hN40 hnb
                        go_wp2_with fail
                        refine (HM17.out.getP Hok.out Hug.out (by show j < qs.length; omega)).mono ?_
                        rintro e w18 ⟨d18, a18, n18, c18, rfl, hM18, ha18, hpl18⟩
                        have hpl18' : d18.pl = sg.idle := by rw [hpl18, Hug.out]
                        have hcn18 : d8.cnt ≤ d18.cnt := by
                          have h1 : d18.pl.cnt = _ := congrArg PS.cnt hpl18
                          have h2 := Hcle.out
                          rw [← h1] at h2
                          exact Int.le_trans Hcn.out h2
                        have H18 := Lib.hid (And.intro hM18 (And.intro (HRB17.out.after ha18) (And.intro (HKB17.out.after ha18) (And.intro hpl18' hcn18))))
                        clear hM18 ha18 hpl18 hpl18' hcn18 e0 e1 e2 le
                        go_wp2_with fail
                        refine ⟨⟨k + 1, d18, by omega, by go_num, H18.out.1, H18.out.2.1, H18.out.2.2.1, ?_, ?_, H18.out.2.2.2.2⟩, by simp only [intOf]; omega⟩
                        · rw [Htk.out, H18.out.2.2.2.1]
                          exact HEg.out
                        · rw [Htk.out]
                          intro x hx
                          rcases List.mem_append.1 hx with hx | hx
                          · exact Hps.out x hx
                          · rw [List.mem_singleton.1 hx]
                            refine ⟨fun j' e => by simp at e, fun q' e => ?_⟩
                            have := qk_inj.1 e
                            subst this
                            exact Hval.out
                      · have hne : (va != vb) = true := by simp [hab]
                        clear hab
                        go_wp2_with fail
                        refine (memoExample_any _).mono ?_
                        rintro e w18 ⟨rfl, c18⟩
                        go_wp2
                        go_ret
                        exact ⟨rfl, (Hc2.out.trans HM17.out.db.chg).trans c18⟩
                    · exact absurd ⟨Hok.out, by rw [HrBl.out], by omega, by simp only; omega⟩ h17.1
                  · exact absurd ⟨Hok.out, by rw [Hrl'.out], by omega, by simp only; omega⟩ h16.1
              · obtain rfl : k = ks.length := by omega
                have hk2 : ¬ ((ks.length : Int) < ks.length) := by omega
                clear hM hRB hKB hEC hps hcn
                have hall : ∀ x ∈ ks, PassK ⟨(N : Int), qs⟩ row' rowB x := by
                  have h := Hps.out
                  rw [List.take_length] at h
                  exact h
                have hEC : EC ⟨(N : Int), qs⟩ (N + 2 + ks.length) d'.pl row' rowB qn r1 ks := by
                  have h := HEC.out
                  rw [List.take_length] at h
                  exact h
                obtain ⟨sf, rf, hu, hcnt, hrf, hchg⟩ := hEC.last Hok.out hqn (fun q' hm => by rw [hEC.deps, ← Hks.out] at hm; exact ⟨hm, (hall _ hm).2 q' rfl⟩) (fun j hm => by rw [hEC.deps, ← Hks.out] at hm; exact (hall _ hm).1 j rfl)
                have hr1 : aget d'.pl.es (1, (qn : Int), 0) = some r1 := hEC.r
                have Hu := Lib.hid hu
                have Hcnt := Lib.hid hcnt
                have Hrf := Lib.hid hrf
                have Hchg := Lib.hid hchg
                have Hr1 := Lib.hid hr1
                have hqk : Inp.QKok (1, (qn : Int), 0) := qryKok (qk_lt hqn) (by omega)
                have Hqk := Lib.hid hqk
                clear hall hEC hu hcnt hrf hchg hr1 hqk
                go_wp2_with fail
                refine (computations_any _ b d' HM.out.db.mem).mono ?_
                rintro e w' ⟨rfl, hww⟩
                rw [hww]
                clear hww
                go_wp2_with fail
                refine (queryKey_any _ _).mono ?_
                rintro e w20 ⟨rfl, c20⟩
                have HM20 := Lib.hid (HM.out.new c20)
                clear c20
                go_wp2_with fail
                refine (changedAt_any w20 b d' (1, (qn : Int), 0) HM20.out.db.mem Hqk.out).mono ?_
                rw [Hr1.out]
                rintro e w21 ⟨rfl, c21⟩
                have HM21 := Lib.hid (HM20.out.new c21)
                clear c21
                simp only [Option.map_some, Option.getD_some, Option.isSome_some]
                go_wp2_with fail
                refine (queryKey_any _ _).mono ?_
                rintro e w22 ⟨rfl, c22⟩
                have HM22 := Lib.hid (HM21.out.new c22)
                clear c22
                go_wp2_with fail
                refine (HM22.out.getP Hok.out Hu.out hqn).mono ?_
                rintro e w23 ⟨d23, a23, n23, c23, rfl, hM23, ha23, hpl23⟩
                have hpl : d23.pl = sf.idle := by rw [hpl23, Hu.out]
                obtain ⟨w24, hw24⟩ : ∃ x, x = w23.alloc (.cells #[.slice a23 n23 c23, .string ⟨#[]⟩] 31) := ⟨_, rfl⟩
                have c24 : Chg [] w23 w24 := by rw [hw24]; exact (Chg.refl [] w23).alloc _
                have hcn : d23.cnt = d'.cnt := by
                  have h : d23.pl.cnt = sf.cnt := by rw [hpl]; rfl
                  exact h.trans Hcnt.out
                have hrr : aget d23.pl.es (1, (qn : Int), 0) = some rf := by rw [hpl]; exact Hrf.out
                have HM24 := Lib.hid (hM23.new c24)
                have Hcn23 := Lib.hid hcn
                have Hrr := Lib.hid hrr
                clear hM23 ha23 hpl23 hpl c24 hcn hrr
                go_wp2_with fail
                rw [← hw24]
                clear hw24
                refine (queryKey_any _ _).mono ?_
                rintro e w25 ⟨rfl, c25⟩
                have HM25 := Lib.hid (HM24.out.new c25)
                clear c25
                go_wp2_with fail
                refine (changedAt_any w25 b d23 (1, (qn : Int), 0) HM25.out.db.mem Hqk.out).mono ?_
                rw [Hrr.out]
                rintro e w26 ⟨rfl, c26⟩
                have HM26 := Lib.hid (HM25.out.new c26)
                clear c26
                simp only [Option.map_some, Option.getD_some, Option.isSome_some]
                rw [Hchg.out]
                go_wp2_with fail
                refine (memoExample_any _).mono ?_
                rintro e w27 ⟨rfl, c27⟩
                have HM27 := Lib.hid (HM26.out.new c27)
                clear c27
                have hge : d8.cnt ≤ d'.cnt := Hcn.out
                go_wp2_with fail
                refine (computations_any _ b d23 HM27.out.db.mem).mono ?_
                rintro e w' ⟨rfl, hww⟩
                rw [hww, Hcn23.out]
                clear hww
                go_wp2_with fail
                go_ret
                exact ⟨rfl, Hc2.out.trans HM27.out.db.chg⟩
end Go.Proofs.Ytdeodcomlakpaaa
