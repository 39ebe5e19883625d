/- run: a script's steps, one by one. -/
import Derived.Test.YtdeodcomlakpaaaGm
import Derived.Test.YtdeodcomlakpaaaGb
/- run: a script's steps, one by one. -/
namespace Go.Proofs.Ytdeodcomlakpaaa
open Go.RowKit Go.ChangeMaps Go.MapKept
set_option linter.unusedVariables false
set_option linter.unusedSimpArgs false
def ScriptPost (p : Prg) (wb : World) (b gi n : Nat) (w : World) (d : Dm) (e : Ending) (w' : World) : Prop :=
  e = .returned (.tuple #[]) ∧ ∃ d' ins', RunM p wb b gi w' d' ins' ∧ RunP p (n + 25) d'.pl ins' ∧ RunF b gi w w' d d'
set_option maxRecDepth 100000 in
set_option maxHeartbeats 8000000 in
theorem script_any {N : Nat} {qs : List (List QO)} (hp : PrgOk ⟨(N : Int), qs⟩) {wb w : World} {b gi n : Nat} {d : Dm} {ins : List Int} (hm : RunM ⟨(N : Int), qs⟩ wb b gi w d ins) (hr : RunP ⟨(N : Int), qs⟩ n d.pl ins) (hn : n ≤ 900) (hL1 : 0 < qs.length) (hN1 : 0 < N) (qa : Option Addr) (qc : Nat) (sv : Value) (ss : List I3) (hs : I3s (fun g => g < wb.heap.size) wb sv ss) :
    Calls Try.prog 47 #[.pointer (some ⟨b, 0, none⟩), .agg #[.int .i64 (N : Int), .slice qa qs.length qc], .slice (some ⟨gi, 0, none⟩) N N, sv] w (ScriptPost ⟨(N : Int), qs⟩ wb b gi n w d) := by
  have hN40 : N ≤ 40 := by have h : (N : Int) ≤ 40 := hp.inp.2; omega
  have hL40 : qs.length ≤ 40 := hp.size
  obtain ⟨sa, sc, rfl, hml, hmc⟩ := hs.shape
  obtain ⟨kk, hkk⟩ : ∃ kk : Nat, min (ss.length : Int) 25 = kk := ⟨(min (ss.length : Int) 25).toNat, by omega⟩
  have hks : kk ≤ ss.length := by omega
  have hk25 : kk ≤ 25 := by omega
  have hksc : (kk : Int) ≤ sc := by omega
  obtain ⟨wa, hwa⟩ : ∃ x, x = w.alloc (.cells #[.int .i64 (N : Int), .slice qa qs.length qc] 42) := ⟨_, rfl⟩
  have hca : Chg [] w wa := by rw [hwa]; exact (Chg.refl [] w).alloc _
  have hbx : Box b wa d w.heap.size (.cells #[.int .i64 (N : Int), .slice qa qs.length qc] 42 (0, 0)) := by rw [hwa]; exact Box.make hm.db.mem _ _
  have Hm := Lib.hid (hm.new hca)
  have Hr := Lib.hid hr
  have Hs := Lib.hid hs
  have Hbx := Lib.hid hbx
  have Hc := Lib.hid hca
  have Hp := Lib.hid hp
  have hgi : gi ≠ w.heap.size := by have := hm.lt; omega
  have Hgi := Lib.hid hgi
  clear hm hr hs hbx hca hp hgi
  go_enter Try.func47, Try.ntmps47
  go_wp2_with fail
  rw [← hwa]
  clear hwa
  go_loopw [18] (fun jj wr => ∃ (k : Nat) (d' : Dm) (ins' : List Int), k ≤ kk ∧ jj = .int .i64 (k : Nat) ∧ RunM ⟨(N : Int), qs⟩ wb b gi wr d' ins' ∧ RunP ⟨(N : Int), qs⟩ (n + k) d'.pl ins' ∧ RunF b gi wa wr d d' ∧ Box b wr d' w.heap.size (.cells #[.int .i64 (N : Int), .slice qa qs.length qc] 42 (0, 0))) (fun jj _ => kk - (intOf jj).toNat)
  case atStart => exact ⟨0, d, ins, by omega, rfl, Hm.out, Hr.out, RunF.refl _ _ _ _, Hbx.out⟩
  case round =>
    obtain ⟨k, d', ins', hk, rfl, hM, hR, hF, hB⟩ := hrel
    have HM := Lib.hid hM
    have HR := Lib.hid hR
    have HF := Lib.hid hF
    have HB := Lib.hid hB
    by_cases hlt : k < kk
    · have hk1 : (k : Int) < kk := by omega
      have hi := I3s.kept Hs.out (hM.db.chg.p (S := fun _ => False)) (fun _ _ h => h)
      obtain ⟨g, off, rfl, hgp, r0, r1, r2⟩ := SlR.at hi k (by omega) (0, 0, 0)
      obtain ⟨xd, hxd⟩ : ∃ x, x = (ss.getD k (0, 0, 0)).1 := ⟨_, rfl⟩
      obtain ⟨xa, hxa⟩ : ∃ x, x = (ss.getD k (0, 0, 0)).2.1 := ⟨_, rfl⟩
      obtain ⟨xb, hxb⟩ : ∃ x, x = (ss.getD k (0, 0, 0)).2.2 := ⟨_, rfl⟩
      rw [← hxd] at r0
      rw [← hxa] at r1
      rw [← hxb] at r2
      have lg : g < wr.heap.size := lt_of_cell r0
      clear hxd hxa hxb hi hgp hM hR hF hB
      obtain ⟨m0, m1⟩ : wr.cell? ⟨w.heap.size, 0, none⟩ = some (.int .i64 (N : Int)) ∧ wr.cell? ⟨w.heap.size, 1, none⟩ = some (.slice qa qs.length qc) := ⟨cell_of_heap HB.out.blk rfl, cell_of_heap HB.out.blk rfl⟩
      have lm : w.heap.size < wr.heap.size := lt_of_cell m0
      obtain ⟨w3, hw3⟩ : ∃ x, x = wr.alloc (.cells #[.int .i64 xd, .int .i64 xa, .int .i64 xb] 47) := ⟨_, rfl⟩
      have c3 : Chg [] wr w3 := by rw [hw3]; exact (Chg.refl [] wr).alloc _
      have hs3 : Box b w3 d' wr.heap.size (.cells #[.int .i64 xd, .int .i64 xa, .int .i64 xb] 47 (0, 0)) := by rw [hw3]; exact Box.make HM.out.db.mem _ _
      have s0 : w3.cell? ⟨wr.heap.size, 0, none⟩ = some (.int .i64 xd) := cell_of_heap hs3.blk rfl
      have s1 : w3.cell? ⟨wr.heap.size, 1, none⟩ = some (.int .i64 xa) := cell_of_heap hs3.blk rfl
      have s2 : w3.cell? ⟨wr.heap.size, 2, none⟩ = some (.int .i64 xb) := cell_of_heap hs3.blk rfl
      have HS := Lib.hid hs3
      have HM3 := Lib.hid (HM.out.new c3)
      have HB3 := Lib.hid (HB.out.new c3)
      have HF3 := Lib.hid (HF.out.new c3)
      obtain ⟨qn, hqn, hmq⟩ := modN xa qs.length (by omega) (by omega)
      obtain ⟨jn, hjn, hmi⟩ := modN xa N (by omega) (by omega)
      have Hmq := Lib.hid hmq
      have Hmi := Lib.hid hmi
      have Hqn := Lib.hid hqn
      clear hmq hmi hs3
      go_wp2_with fail
      rw [← hw3]
      have M0 := (c3.cell (p := ⟨w.heap.size, 0, none⟩) lm (by simp)).trans m0
      have M1 := (c3.cell (p := ⟨w.heap.size, 1, none⟩) lm (by simp)).trans m1
      have LM := lt_of_cell M0
      have LS := lt_of_cell s0
      clear hw3 c3 m0 m1 lm r0 r1 r2 lg
      go_region_held3 (fun w' => w'.cell? ⟨wr.heap.size, 1, none⟩ = some (.int .i64 xa) ∧ w'.cell? ⟨w.heap.size, 0, none⟩ = some (.int .i64 (N : Int)) ∧ w'.cell? ⟨w.heap.size, 1, none⟩ = some (.slice qa qs.length qc))
        (first | (go_keep; done))
        (first
          | (go_at_call 15; with_reducible refine (Hmq.out _).mono ?_; rintro e w' ⟨rfl, rfl⟩)
          | (go_at_call 15; with_reducible refine (Hmi.out _).mono ?_; rintro e w' ⟨rfl, rfl⟩))
      all_goals
        have cd : Chg [] w3 w3.drew := (Chg.refl [] w3).drew
        obtain ⟨w4, hw4⟩ : ∃ x, x = w3.drew := ⟨_, rfl⟩
        rw [← hw4] at cd ⊢
        clear hw4
        have S0 := (cd.cell (p := ⟨wr.heap.size, 0, none⟩) LS (by simp)).trans s0
        have S2 := (cd.cell (p := ⟨wr.heap.size, 2, none⟩) LS (by simp)).trans s2
        have LS4 := lt_of_cell S0
        have HS4 := Lib.hid (HS.out.new cd)
        have HM4 := Lib.hid (HM3.out.new cd)
        have HB4 := Lib.hid (HB3.out.new cd)
        have HF4 := Lib.hid (HF3.out.new cd)
        have hjn1 : (jn : Int) < (N : Int) := by omega
        have hjl : jn < ins'.length := by have h : (ins'.length : Int) = (N : Int) := HM4.out.len; omega
        have Hjl := Lib.hid hjl
        clear cd s0 s1 s2 LS M0 M1 LM hjl
        go_wp2_with fail
        refine (mod_any xd 7 _ (by decide) (by decide)).mono ?_
        rintro e w' ⟨rfl, rfl⟩
        obtain ⟨x, hx⟩ : ∃ x, x = modI xd 7 := ⟨_, rfl⟩
        have hxb := modI_bd xd 7 (by decide)
        rw [← hx] at hxb ⊢
        clear hx
        rcases (by omega : x = 3 ∨ x = 4 ∨ x = 5 ∨ x = 6 ∨ (x = 0 ∨ x = 1 ∨ x = 2)) with rfl | rfl | rfl | rfl | hx3
        · clear hxb
          go_wp2_with fail
          refine (queryKey_any _ _).mono ?_
          rintro e w5 ⟨rfl, c5⟩
          have HM5 := Lib.hid (HM4.out.new c5)
          have HB5 := Lib.hid (HB4.out.new c5)
          have HF5 := Lib.hid (HF4.out.new c5)
          clear c5 S0 S2 LS4
          go_wp2_with fail
          refine (HM5.out.get Hp.out HR.out (by omega) Hqn.out).mono ?_
          rintro e w6 ⟨d6, a6, c6, r6, rfl, hi6, hM6, hR6, hf6, ha6⟩
          have H6 := Lib.hid (And.intro hM6 (And.intro hR6 ha6))
          clear hi6 hM6 hR6 hf6 ha6
          go_wp2_with fail
          go_roundw
          case rel => exact ⟨k + 1, d6, ins', by omega, by go_num, H6.out.1, H6.out.2.1, HF5.out.after H6.out.2.2, HB5.out.after H6.out.2.2⟩
          case measure => simp only [intOf]; omega
        · clear hxb
          go_wp2_with fail
          go_region_held3 (fun w' => w'.cell? ⟨wr.heap.size, 2, none⟩ = some (.int .i64 xb))
            (first | (go_keep; done) | (exact kS6) | (exact kS5))
            (first
              | (go_at_call 26; refine (queryKey_any _ _).mono ?_; rintro e w5 ⟨rfl, c5⟩; have H5 := Lib.hid (((Chg.refl [] w4).drew).trans c5); have kS5 : w5.cell? ⟨wr.heap.size, 2, none⟩ = some (.int .i64 xb) := (H5.out.cell (p := ⟨wr.heap.size, 2, none⟩) LS4 (by simp)).trans S2; clear c5)
              | (go_at_call 15; refine (mod_any xb 3 _ (by decide) (by decide)).mono ?_; rintro e w' ⟨rfl, rfl⟩)
              | (go_at_call 77; refine (getWithin_any Hp.out (HM4.out.db.new H5.out) qn Hqn.out (modI xb 3)).mono ?_; rintro e w6 ⟨d6, v6, hd6, hpl6, ha6, rfl⟩; have kS6 : w6.cell? ⟨wr.heap.size, 2, none⟩ = some (.int .i64 xb) := cell_of_heap ((HS4.out.new H5.out).after ha6).blk rfl; have H6 := Lib.hid (And.intro ((HM4.out.new H5.out).after hd6 ha6) (And.intro (show RunP ⟨(N : Int), qs⟩ (n + (k + 1)) d6.pl ins' by rw [hpl6]; exact (HR.out.upd Hp.out (by omega) _ Hqn.out)) ha6)); clear hd6 ha6 hpl6))
          all_goals
            clear S0 S2 LS4
            go_wp2_with fail
            go_roundw
            case rel => exact ⟨k + 1, d6, ins', by omega, by go_num, H6.out.1, H6.out.2.1, (HF4.out.new H5.out).after H6.out.2.2, (HB4.out.new H5.out).after H6.out.2.2⟩
            case measure => simp only [intOf]; omega
        · clear hxb
          go_wp2_with fail
          refine (queryKey_any _ _).mono ?_
          rintro e w5 ⟨rfl, c5⟩
          have HM5 := Lib.hid (HM4.out.new c5)
          have HB5 := Lib.hid (HB4.out.new c5)
          have HF5 := Lib.hid (HF4.out.new c5)
          clear c5 S0 S2 LS4
          go_wp2_with fail
          refine (HM5.out.db.forget (1, (qn : Int), 0) (qryKok (qk_lt Hqn.out) Hp.out.size)).mono ?_
          rintro e w6 ⟨d6, rfl, hd6, ha6, hpl6⟩
          have H6 := Lib.hid (And.intro (HM5.out.after hd6 ha6) (And.intro (show RunP ⟨(N : Int), qs⟩ (n + (k + 1)) d6.pl ins' by rw [hpl6]; exact (HR.out.forget _).mono (by omega)) ha6))
          clear hd6 ha6 hpl6
          go_wp2_with fail
          go_roundw
          case rel => exact ⟨k + 1, d6, ins', by omega, by go_num, H6.out.1, H6.out.2.1, HF5.out.after H6.out.2.2, HB5.out.after H6.out.2.2⟩
          case measure => simp only [intOf]; omega
        · clear hxb
          go_wp2_with fail
          refine (mod_any xb 4 _ (by decide) (by decide)).mono ?_
          rintro e w' ⟨rfl, rfl⟩
          have hcb := modI_bd xb 4 (by decide)
          have Htr := Lib.hid (trim_any Hp.out HM4.out.db (by have := es_few Hp.out HM4.out.db.mem HM4.out.db.inv; omega) (HR.out.useB (by omega)) (modI xb 4) hcb.1 (by omega))
          clear hcb S0 S2 LS4
          go_wp2_with fail
          refine Htr.out.mono ?_
          rintro e w6 ⟨ks, d6, _, _, rfl, hd6, ha6, hpl6⟩
          have H6 := Lib.hid (And.intro (HM4.out.after hd6 ha6) (And.intro (show RunP ⟨(N : Int), qs⟩ (n + (k + 1)) d6.pl ins' by rw [hpl6]; exact (HR.out.forgetAll _).mono (by omega)) ha6))
          clear hd6 ha6 hpl6
          go_wp2_with fail
          go_roundw
          case rel => exact ⟨k + 1, d6, ins', by omega, by go_num, H6.out.1, H6.out.2.1, HF4.out.after H6.out.2.2, HB4.out.after H6.out.2.2⟩
          case measure => simp only [intOf]; omega
        · rcases hx3 with rfl | rfl | rfl
          all_goals
            clear hxb
            go_wp2_with fail
            refine (mod_any xb 4 _ (by decide) (by decide)).mono ?_
            rintro e w' ⟨rfl, rfl⟩
            have G0 := HM4.out.cell Hjl.out
            have G1 := HM4.out.frozen jn
            have lgi := HM4.out.lt
            obtain ⟨y, hy⟩ : ∃ y, y = modI xb 4 := ⟨_, rfl⟩
            rw [← hy]
            clear hy
            go_wp2_with fail
            obtain ⟨w5, hw5⟩ : ∃ x, x = w4.setCell ⟨gi, jn, none⟩ (.int .i64 y) := ⟨_, rfl⟩
            rw [← hw5]
            have hM5 := HM4.out.store jn y
            have hF5 := HF4.out.store jn (.int .i64 y)
            have hch : ChgP (fun g => g = gi) w4 (w4.setCell ⟨gi, jn, none⟩ (.int .i64 y)) := (ChgP.refl (fun g => g = gi) w4).setCell (p := ⟨gi, jn, none⟩) (Or.inl rfl) _
            rw [← hw5] at hM5 hF5 hch
            have hgn : ¬ (w.heap.size = gi) := fun e => Hgi.out e.symm
            have hgs : ¬ (wr.heap.size = gi) := fun e => by have := HM.out.lt; omega
            have HS5 := Lib.hid (show Box b w5 d' wr.heap.size (.cells #[.int .i64 xd, .int .i64 xa, .int .i64 xb] 47 (0, 0)) from ⟨(hch.block _ (lt_of_obj HS4.out.blk) hgs).trans HS4.out.blk, HS4.out.off⟩)
            have HB5 := Lib.hid (show Box b w5 d' w.heap.size (.cells #[.int .i64 (N : Int), .slice qa qs.length qc] 42 (0, 0)) from ⟨(hch.block _ (lt_of_obj HB4.out.blk) hgn).trans HB4.out.blk, HB4.out.off⟩)
            have HM5 := Lib.hid hM5
            have HF5 := Lib.hid hF5
            have S2 : w5.cell? ⟨wr.heap.size, 2, none⟩ = some (.int .i64 xb) := cell_of_heap HS5.out.blk rfl
            have G0 : w5.cell? ⟨gi, jn, none⟩ = some (.int .i64 y) := by
              have h := hM5.cell (i := jn) (by rw [List.length_set]; exact Hjl.out)
              rw [getD_setI _ _ _ Hjl.out, if_pos rfl] at h
              exact h
            have LS5 := lt_of_cell S2
            have LG5 := lt_of_cell G0
            clear hw5 hM5 hF5 hch hgn hgs LS4 lgi G1
            go_region_held3 (fun w' => w'.cell? ⟨gi, jn, none⟩ = some (.int .i64 y) ∧ w'.cell? ⟨wr.heap.size, 2, none⟩ = some (.int .i64 xb))
              (first | (go_keep; done) | (exact kS8) | (exact kS7) | (exact kS6))
              (first
                | (go_at_call 25; refine (inputKey_any _ _).mono ?_; rintro e w6 ⟨rfl, c6⟩; have H6 := Lib.hid (((Chg.refl [] w5).drew).trans c6); have kS6 : w6.cell? ⟨gi, jn, none⟩ = some (.int .i64 y) ∧ w6.cell? ⟨wr.heap.size, 2, none⟩ = some (.int .i64 xb) := ⟨(H6.out.cell (p := ⟨gi, jn, none⟩) LG5 (by simp)).trans G0, (H6.out.cell (p := ⟨wr.heap.size, 2, none⟩) LS5 (by simp)).trans S2⟩; clear c6)
                | (go_at_call 18; refine (number_any _ _).mono ?_; rintro e w7 ⟨a7, c7, rfl, hi7, cc7⟩; have H7 := Lib.hid (H6.out.trans cc7); have Hi7 := Lib.hid hi7; have kS7 : w7.cell? ⟨gi, jn, none⟩ = some (.int .i64 y) ∧ w7.cell? ⟨wr.heap.size, 2, none⟩ = some (.int .i64 xb) := ⟨(H7.out.cell (p := ⟨gi, jn, none⟩) LG5 (by simp)).trans G0, (H7.out.cell (p := ⟨wr.heap.size, 2, none⟩) LS5 (by simp)).trans S2⟩; clear cc7 hi7)
                | (go_at_call 15; refine (mod_any xb 3 _ (by decide) (by decide)).mono ?_; rintro e w' ⟨rfl, rfl⟩)
                | (go_at_call 24; refine ((HM5.out.db.new H7.out).set (0, (jn : Int), 0) _ [y] (modI xb 3) (keyInOk (inp := (N : Int)) (idx := 0) (Or.inl ⟨rfl, by simp, hjn1, rfl⟩) (by omega) (by omega)) rfl Hi7.out (by simp) (modI_bd xb 3 (by decide)) (by have := HR.out.rev; omega)).mono ?_; rintro e w8 ⟨d8, hd8, hpl8, ha8, rfl⟩; have hM8 := (HM5.out.new H7.out).after hd8 ha8; have kS8 : w8.cell? ⟨gi, jn, none⟩ = some (.int .i64 y) ∧ w8.cell? ⟨wr.heap.size, 2, none⟩ = some (.int .i64 xb) := ⟨(by have h := hM8.cell (i := jn) (by rw [List.length_set]; exact Hjl.out); rw [getD_setI _ _ _ Hjl.out, if_pos rfl] at h; exact h), cell_of_heap ((HS5.out.new H7.out).after ha8).blk rfl⟩; have H8 := Lib.hid (And.intro hM8 (And.intro (show RunP ⟨(N : Int), qs⟩ (n + (k + 1)) d8.pl (ins'.set jn y) by rw [hpl8]; exact (HR.out.set jn y (modI xb 3) hjn1 HM4.out.len (modI_bd xb 3 (by decide)))) ha8)); clear hd8 hpl8 ha8 hM8))
            all_goals
              clear S2 G0 LS5 LG5
              go_wp2_with fail
              go_roundw
              case rel => exact ⟨k + 1, d8, ins'.set jn y, by omega, by go_num, H8.out.1, H8.out.2.1, (HF5.out.new H7.out).after H8.out.2.2, (HB5.out.new H7.out).after H8.out.2.2⟩
              case measure => simp only [intOf]; omega
    · obtain rfl : k = kk := by omega
      have hk1 : ¬ ((k : Int) < k) := by omega
      clear hM hR hF hB
      go_wp2_with fail
      go_end0
      refine ⟨rfl, d', ins', HM.out, HR.out.mono (by omega), ?_⟩
      exact (RunF.refl b gi w d).new Hc.out |>.trans HF.out
end Go.Proofs.Ytdeodcomlakpaaa
/- started: a database over a compiled program, behind a script. -/
namespace Go.Proofs.Ytdeodcomlakpaaa
open Go.RowKit Go.ChangeMaps Go.MapKept
set_option linter.unusedVariables false
set_option linter.unusedSimpArgs false
theorem RunP.empty (p : Prg) : RunP p 0 PS.empty (List.replicate p.inp.toNat 0) :=
  ⟨⟨_, Inv.empty p⟩, rfl, fun i hi => by
    have h : i < p.inp.toNat := by omega
    have e : PS.empty.inp (0, (i : Int), 0) = IV.zero := by unfold PS.inp PS.empty aget; rfl
    rw [e, List.getD_eq_getElem?_getD (l := List.replicate _ _), List.getElem?_replicate, if_pos h]
    rfl, ⟨fun k r h => (by unfold PS.empty at h; cases h), fun k k' r r' h => (by unfold PS.empty at h; cases h), by unfold PS.empty; simp⟩, by unfold Ct PS.empty; simp, by unfold PS.empty; simp, by unfold PS.empty; simp⟩
def StartedPost (p : Prg) (w : World) (e : Ending) (w' : World) : Prop :=
  ∃ b gi d ins, e = .returned (.tuple #[.pointer (some ⟨b, 0, none⟩), .slice (some ⟨gi, 0, none⟩) ins.length ins.length]) ∧ RunM p w b gi w' d ins ∧ RunP p 25 d.pl ins
set_option maxRecDepth 100000 in
set_option maxHeartbeats 8000000 in
theorem started_any {N : Nat} {qs : List (List QO)} (hp : PrgOk ⟨(N : Int), qs⟩) (w : World) (hL1 : 0 < qs.length) (hN1 : 0 < N) (qv sv : Value) (ss : List I3) (hq : I3ss (fun g => g < w.heap.size) w qv qs) (hs : I3s (fun g => g < w.heap.size) w sv ss) :
    Calls Try.prog 33 #[.agg #[.int .i64 (N : Int), qv], sv] w (StartedPost ⟨(N : Int), qs⟩ w) := by
  have hN40 : N ≤ 40 := by have h : (N : Int) ≤ 40 := hp.inp.2; omega
  obtain ⟨qa, qc, rfl, hlm, hlc⟩ := hq.shape
  obtain ⟨wa, hwa⟩ : ∃ x, x = w.alloc (.cells #[.int .i64 (N : Int), .slice qa qs.length qc] 42) := ⟨_, rfl⟩
  have hca : Chg [] w wa := by rw [hwa]; exact (Chg.refl [] w).alloc _
  have hba : wa.heap[w.heap.size]? = some (.cells #[.int .i64 (N : Int), .slice qa qs.length qc] 42 (0, 0)) := by rw [hwa]; exact heap_at _ _ _ rfl
  have m0 : wa.cell? ⟨w.heap.size, 0, none⟩ = some (.int .i64 (N : Int)) := cell_of_heap hba rfl
  have m1 : wa.cell? ⟨w.heap.size, 1, none⟩ = some (.slice qa qs.length qc) := cell_of_heap hba rfl
  have lm : w.heap.size < wa.heap.size := lt_of_cell m0
  have Hq := Lib.hid (hq.old (fun _ h => h) hca)
  have Hs := Lib.hid hs
  have Hba := Lib.hid hba
  have Hc := Lib.hid hca
  have Hp := Lib.hid hp
  clear hs hba hca hp hlm hlc hq
  go_enter Try.func33, Try.ntmps33
  go_wp2_with fail
  rw [← hwa]
  clear hwa
  refine (compile_any _ wa N qs _ Hq.out Hp.out).mono ?_
  rintro e w2 ⟨bv, bq, qv', rfl, hm2, hc2⟩
  have Hm2 := Lib.hid hm2
  have Hc2 := Lib.hid hc2
  have n0 := (hc2.cell (p := ⟨w.heap.size, 0, none⟩) lm (by simp)).trans m0
  have n1 := (hc2.cell (p := ⟨w.heap.size, 1, none⟩) lm (by simp)).trans m1
  have ln := lt_of_cell n0
  clear hm2 hc2 m0 m1 lm
  go_wp2_with fail
  refine (memoNew_any _ _ w2).mono ?_
  rintro e w3 ⟨b, d, rfl, hd, hpl, hcomp, hstop, hc3, hn⟩
  have hdb : DbF ⟨(N : Int), qs⟩ w b w3 d := ⟨_, _, _, _, _, DbQ.make Hm2.out (fun g hg => hg.2) hd hpl hcomp hstop hc3 hn, (Hc.out.trans Hc2.out).trans hc3, fun g hg => Nat.le_trans (Hc.out.trans Hc2.out).size (hn g (List.mem_append_left _ hg)), fun g hg => Nat.lt_of_lt_of_le hg.2 (hn b (List.mem_append_left _ (by simp [Dm.muts])))⟩
  have k0 := (hc3.cell (p := ⟨w.heap.size, 0, none⟩) ln (by simp)).trans n0
  have k1 := (hc3.cell (p := ⟨w.heap.size, 1, none⟩) ln (by simp)).trans n1
  have lk : w.heap.size < w3.heap.size := lt_of_cell k0
  have hbl : b < w3.heap.size := hd.lt b (by simp [Dm.muts])
  have hmk := run_make_row' (P := Try.prog) 29 3 (.int .i64 0) 8 Try.underlying29 Try.infoIntQ rfl .i64 .i64 N (by omega) (by omega)
  have hmk' := hmk w3
  have hcur : madeCells #[.int .i64 0] N = (List.replicate N (Value.int .i64 0)).toArray := by
    apply Array.ext
    · simp [madeCells]
    · intro i h1 h2
      simp [madeCells, Nat.mod_one]
  obtain ⟨w4, hw4⟩ : ∃ x, x = w3.alloc (.cells (madeCells #[.int .i64 0] N) 3) := ⟨_, rfl⟩
  have hg : w4.heap[w3.heap.size]? = some (.cells (List.replicate N (Value.int .i64 0)).toArray 3 (0, 0)) := by rw [hw4, ← hcur]; exact heap_at _ _ _ rfl
  have hc4 : Chg [] w3 w4 := by rw [hw4]; exact (Chg.refl [] w3).alloc _
  have hM : RunM ⟨(N : Int), qs⟩ w b w3.heap.size w4 d (List.replicate N 0) := by
    refine ⟨hdb.new hc4, by simp, by rw [hg]; simp, fun hm => by have := hd.lt _ hm; omega, fun hm => by have := hd.bound _ hm; omega, hbl, ?_⟩
    exact ((Hc.out.trans Hc2.out).trans hc3).size
  have hR : RunP ⟨(N : Int), qs⟩ 0 d.pl (List.replicate N 0) := by
    have := RunP.empty ⟨(N : Int), qs⟩
    rw [hpl]
    exact this
  have q0 := (hc4.cell (p := ⟨w.heap.size, 0, none⟩) lk (by simp)).trans k0
  have q1 := (hc4.cell (p := ⟨w.heap.size, 1, none⟩) lk (by simp)).trans k1
  have lq : w.heap.size < w4.heap.size := lt_of_cell q0
  have Hrun := Lib.hid (script_any Hp.out hM hR (by omega) hL1 hN1 qa qc sv ss Hs.out)
  clear hdb hd hpl hcomp hstop hc3 hn n0 n1 ln hmk hcur hg hc4 hM hR hbl
  go_wp2_with fail
  rw [← hw4]
  clear hw4
  refine Hrun.out.mono ?_
  rintro e w5 ⟨rfl, d', ins', h1, h2, h3⟩
  have hl : ins'.length = N := by have h : (ins'.length : Int) = (N : Int) := h1.len; omega
  have H1 := Lib.hid (And.intro h1 h2)
  have Hl := Lib.hid hl
  clear h1 h2 h3 hl
  go_wp2_with fail
  go_ret2
  exact ⟨b, w3.heap.size, d', ins', by rw [Hl.out]; rfl, H1.out.1, H1.out.2⟩
end Go.Proofs.Ytdeodcomlakpaaa
