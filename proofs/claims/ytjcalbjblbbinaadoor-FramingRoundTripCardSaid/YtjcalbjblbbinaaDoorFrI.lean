/- FramingChunks' walk: the law. -/
import Derived.Test.YtjcalbjblbbinaaDoorFrH
namespace Go.Proofs.YtjcalbjblbbinaaDoor
open Go.RowKit Go.ChangeMaps Go.MapKept
set_option linter.unusedVariables false
set_option linter.unusedSimpArgs false
theorem ext_all (s : ByteArray) : s.extract 0 s.size = s := ba_ext (by rw [ext_drop, List.drop_zero])
set_option maxRecDepth 100000 in
set_option maxHeartbeats 16000000 in
theorem chunks_any (p r : Nat → Prop) (w : World) (v cv : Value) (E : List ByteArray) (C : List Int) (h : StrsP p w v E) (hC : IntsP r w cv C) (hP : P10 w) (hM : ML w) :
    Calls Tryd.prog 4 #[v, cv] w fun e w' => e = .returned (.bool true) ∧ Chg [] w w' := by
  obtain ⟨a, cap, rfl, hl1, hl2⟩ := h.shape
  obtain ⟨ca, ccap, rfl, hcl1, hcl2⟩ := SlR.shape hC
  unfold maxLen at hl1 hcl1
  obtain ⟨n, hn⟩ : ∃ n : Nat, min (E.length : Int) 8 = n := ⟨(min (E.length : Int) 8).toNat, by omega⟩
  obtain ⟨m, hm⟩ : ∃ m : Nat, min (C.length : Int) 40 = m := ⟨(min (C.length : Int) 40).toNat, by omega⟩
  have hnE : n ≤ E.length := by omega
  have hn10 : n ≤ 8 := by omega
  have hnc : (n : Int) ≤ cap := by omega
  have hmC : m ≤ C.length := by omega
  have hmc : (m : Int) ≤ ccap := by omega
  obtain ⟨F, hF⟩ : ∃ F, F = E.take n := ⟨_, rfl⟩
  have hFl : F.length = n := by rw [hF, List.length_take]; omega
  have h' : StrsP p w (.slice a n cap) F := by rw [hF]; exact h.take n hnE
  have H := Lib.hid (fun W (hc : Chg [] w W) => h'.same hc)
  have HC := Lib.hid (fun W (hc : Chg [] w W) => IntsP.kept (S := fun _ => False) hC hc.p (fun _ _ h => h))
  have HP := Lib.hid (fun W (hc : Chg [] w W) => hP.new hc)
  have HM := Lib.hid (fun W (hc : Chg [] w W) => hM.new hc)
  have HX := Lib.hid (fun W (hc : Chg [] w W) => example_any W (hP.new hc))
  have HFl := Lib.hid hFl
  have Hc0 := Lib.hid (Chg.refl [] w)
  clear h h' hP hM hF hFl hC
  go_enter Tryd.func4, Tryd.ntmps4
  go_wp2_with fail
  refine (HX.out w Hc0.out).mono ?_
  rintro e w1 ⟨rfl, hc1⟩
  have Hc1 := Lib.hid hc1
  clear hc1
  go_wp2_with fail
  refine (stream_any p _ F w1 (H.out w1 Hc1.out) (by rw [HFl.out]; omega) (HP.out w1 Hc1.out)).mono ?_
  rintro e w2 ⟨hst, hc2⟩
  have Hc2 := Lib.hid (Hc1.out.trans hc2)
  clear hc2
  rcases hst with ⟨hb, rfl⟩ | rfl
  · have Hb := Lib.hid hb
    clear hb
    obtain ⟨s, hs⟩ : ∃ s, s = flB F := ⟨_, rfl⟩
    have Hs := Lib.hid hs
    rw [← hs]
    clear hs
    obtain ⟨db, hdb⟩ : ∃ db, db = w2.heap.size := ⟨_, rfl⟩
    have Hnd := Lib.hid (newDecoder_any w2)
    rw [← hdb] at Hnd
    have hdw : w.heap.size ≤ db := by rw [hdb]; exact Hc2.out.size
    clear hdb
    go_wp2_with fail
    refine Hnd.out.mono ?_
    rintro e w3 ⟨rfl, hd3, hc3⟩
    have H3 : Hid (CI F db 0 none 0 ⟨#[]⟩ s w w3) := Lib.hid ⟨OwnS.nil _ _, hd3, Hc2.out.trans hc3, by rw [Hs.out, flB_list]; rfl, by omega, hdw⟩
    clear hd3 hc3
    go_wp2_with fail
    go_loopw [8, 9, 48] (fun vg vr vi wr => ∃ (i k : Nat) (a : Option Addr) (cap : Nat) (rest buf : ByteArray), vg = .slice a k cap ∧ vr = .string rest ∧ vi = .int .i64 (i : Nat) ∧ i ≤ m ∧ Hid (CI F db k a cap buf rest w wr)) (fun _ _ vi _ => m - (intOf vi).toNat)
    case atStart => exact ⟨0, 0, none, 0, s, ⟨#[]⟩, rfl, rfl, rfl, by omega, H3⟩
    case round =>
      obtain ⟨i, k, ga, gc, rest, buf, rfl, rfl, rfl, hi, HI⟩ := hrel
      have hrs : rest.size ≤ 1000000 := by
        have h1 := HI.out.room
        rw [flB_size] at h1
        have h2 := flat_le F Hb.out
        rw [HFl.out] at h2
        omega
      by_cases hlt : i < m
      · obtain ⟨g, off, rfl, hp, c0⟩ := (HC.out wr HI.out.chg).cell i (by omega)
        generalize C.getD i 0 = c at c0
        have lb := lt_of_cell c0
        have hii : (i : Int) < m := by omega
        obtain ⟨mn, hmn⟩ : ∃ mn : Nat, min (rest.size : Int) 60 = mn := ⟨(min (rest.size : Int) 60).toNat, by omega⟩
        have hmn1 : mn ≤ rest.size := by omega
        have hmn2 : mn ≤ 60 := by omega
        obtain ⟨hm0, hm1⟩ := modI_bd c ((mn : Int) + 1) (by omega)
        obtain ⟨x, hx⟩ : ∃ x : Nat, modI c ((mn : Int) + 1) = x := ⟨(modI c ((mn : Int) + 1)).toNat, by omega⟩
        have Hmod := Lib.hid (fun W => mod_any c ((mn : Int) + 1) W (by omega) (by omega))
        rw [hx] at Hmod hm0 hm1
        have hxr : x ≤ rest.size := by omega
        have hxi : (x : Int) ≤ rest.size := by omega
        have Hwr := Lib.hid (HI.out.write (by rw [HFl.out]; omega) Hb.out (HM.out wr HI.out.chg) x hxr)
        clear hx
        go_wp2_with fail
        refine (Hmod.out wr).mono ?_
        rintro e w4 ⟨rfl, rfl⟩
        go_wp2_with fail
        refine Hwr.out.mono ?_
        rintro e w5 ⟨j, b, a2, c2, rfl, ho2, hj, _, ho, hd, hc, ht⟩
        obtain ⟨a3, c3, w6, hr6, h6⟩ := CI.push ho hd hc ht HI.out.k hj (by rw [HFl.out]; omega) HI.out.hdb ho2
        have Hr6 := Lib.hid hr6
        have H6 := Lib.hid h6
        clear ho2 hj ho hd hc ht hr6 h6
        go_wp2_with (at_builtin; refine wpList_append_run rfl _ _ _ rfl _ _ _ _ rfl rfl Hr6.out ?_)
        refine (buffered_any db b w6 H6.out.dc).mono ?_
        rintro e w7 ⟨rfl, rfl⟩
        have hroom0 : b.size + (rest.size - x) ≤ s.size ∧ b.size ≤ 1000000 := by
          have h1 := H6.out.room
          rw [← Hs.out, ByteArray.size_extract] at h1
          have h3 : s.size ≤ 1000000 := by
            have h2 := flat_le F Hb.out
            rw [HFl.out] at h2
            rw [Hs.out, flB_size]
            omega
          omega
        obtain ⟨hroom1, hroom2⟩ := hroom0
        have hroom : ¬ ((s.size : Int) < (b.size : Int) + ((rest.size - x : Nat) : Int)) := by omega
        have hroom3 : (b.size : Int) + ((rest.size - x : Nat) : Int) ≤ 2000000 := by omega
        go_wp2_with fail
        exact ⟨⟨i + 1, k + j, a3, c3, _, b, rfl, rfl, by go_num, by omega, H6⟩, by simp [intOf]; omega⟩
      · obtain rfl : i = m := by omega
        have hii : ¬ ((i : Int) < i) := by omega
        have hwr := HI.out.write (by rw [HFl.out]; omega) Hb.out (HM.out wr HI.out.chg) rest.size (Nat.le_refl _)
        rw [ext_all] at hwr
        have Hwr := Lib.hid hwr
        clear hwr
        go_wp2_with fail
        refine Hwr.out.mono ?_
        rintro e w5 ⟨j, b, a2, c2, rfl, ho2, hj, hfin, ho, hd, hc, ht⟩
        obtain ⟨a3, c3, w6, hr6, h6⟩ := CI.push ho hd hc ht HI.out.k hj (by rw [HFl.out]; omega) HI.out.hdb ho2
        obtain ⟨hjk, rfl⟩ := hfin (by simp)
        have Hjk := Lib.hid (show k + j = F.length by have := HI.out.k; omega)
        have Hr6 := Lib.hid hr6
        have H6 := Lib.hid h6
        clear ho2 hj ho hd hc ht hr6 h6 hjk hfin
        go_wp2_with (at_builtin; refine wpList_append_run rfl _ _ _ rfl _ _ _ _ rfl rfl Hr6.out ?_)
        refine (HX.out w6 H6.out.chg).mono ?_
        rintro e w7 ⟨rfl, hc7⟩
        have H7 := Lib.hid (H6.out.new hc7)
        clear hc7
        go_wp2_with fail
        have heq := eqStrs_any _ p w7 _ _ F (by have h := H7.out.own.strs; rw [Hjk.out, List.take_length] at h; exact h) (H.out w7 H7.out.chg)
        rw [← Hjk.out] at heq
        refine heq.mono ?_
        rintro e w8 ⟨rfl, hc8⟩
        have H8 := Lib.hid (H7.out.new hc8)
        clear hc8 heq
        go_wp2_with fail
        refine (buffered_any db ⟨#[]⟩ w8 H8.out.dc).mono ?_
        rintro e w9 ⟨rfl, rfl⟩
        go_wp2_with fail
        go_ret
        exact ⟨rfl, H8.out.chg⟩
  · have Hnd := Lib.hid (newDecoder_any w2)
    go_wp2_with fail
    refine Hnd.out.mono ?_
    rintro e w3 ⟨rfl, hd3, hc3⟩
    have Hc3 := Lib.hid (Hc2.out.trans hc3)
    clear hd3 hc3
    go_wp2_with fail
    refine (HX.out w3 Hc3.out).mono ?_
    rintro e w4 ⟨rfl, hc4⟩
    have Hc4 := Lib.hid (Hc3.out.trans hc4)
    clear hc4
    go_wp2_with fail
    go_ret
    exact ⟨rfl, Hc4.out⟩
end Go.Proofs.YtjcalbjblbbinaaDoor
