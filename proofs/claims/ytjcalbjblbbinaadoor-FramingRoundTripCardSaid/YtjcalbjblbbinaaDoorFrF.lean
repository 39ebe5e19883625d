/- FramingRoundTrip's walk. -/
import Derived.Test.YtjcalbjblbbinaaDoorFrE
namespace Go.Proofs.YtjcalbjblbbinaaDoor
open Go.RowKit Go.ChangeMaps Go.MapKept
set_option linter.unusedVariables false
set_option linter.unusedSimpArgs false
theorem flat_take_le (L : List ByteArray) (j : Nat) : (flat (L.take j)).length ≤ (flat L).length := by
  have h := congrArg (fun l => (flat l).length) (List.take_append_drop j L)
  simp only [flat_app, List.length_append] at h
  omega
/-- a whole stream is split into all its bodies -/
theorem split_whole (L : List ByteArray) (w : World) (hL : L.length ≤ 100) (hb : ∀ b ∈ L, b.size ≤ 4000) (hM : ML w) :
    Calls Tryd.prog 7 #[.string (flB L)] w fun e w' => ∃ (a : Option Addr) (cap : Nat), e = .returned (.tuple #[.slice a L.length cap, .int .i64 ((flB L).size : Nat), .int .i64 0]) ∧ OwnS w' w.heap.size (.slice a L.length cap) L ∧ Chg [] w w' := by
  have hsz : (flB L).size ≤ 1000000 := by
    rw [flB_size]
    have h1 := flat_le L hb
    have h2 : L.length * 4024 ≤ 100 * 4024 := Nat.mul_le_mul_right _ hL
    omega
  refine (split_any L (flB L) [] w hL hb (by rw [flB_list, List.append_nil]) hsz hM).mono ?_
  rintro e w' ⟨k, q, a, cap, rfl, hk, hq, hqs, hlt, ho, hc⟩
  have hkL : k = L.length := by
    by_cases h : k < L.length
    · have h1 := hlt h
      have h2 := flat_len h
      have h3 := flat_take_le L (k + 1)
      rw [flB_size] at h1
      omega
    · omega
  subst hkL
  rw [List.take_length] at hq ho
  rw [flB_size, ← hq]
  exact ⟨a, cap, rfl, ho, hc⟩
set_option maxRecDepth 100000 in
set_option maxHeartbeats 16000000 in
theorem roundTrip_any (p : Nat → Prop) (w : World) (v : Value) (E : List ByteArray) (z : Int) (h : StrsP p w v E) (hP : P10 w) (hM : ML w) :
    Calls Tryd.prog 3 #[v, .int .i64 z] w fun e w' => e = .returned (.bool true) ∧ Chg [] w w' := by
  obtain ⟨a, cap, rfl, hl1, hl2⟩ := h.shape
  unfold maxLen at hl1
  obtain ⟨n, hn⟩ : ∃ n : Nat, min (E.length : Int) 10 = n := ⟨(min (E.length : Int) 10).toNat, by omega⟩
  have hnE : n ≤ E.length := by omega
  have hn10 : n ≤ 10 := by omega
  have hnc : (n : Int) ≤ cap := by omega
  obtain ⟨F, hF⟩ : ∃ F, F = E.take n := ⟨_, rfl⟩
  have hFl : F.length = n := by rw [hF, List.length_take]; omega
  have h' : StrsP p w (.slice a n cap) F := by rw [hF]; exact h.take n hnE
  have H := Lib.hid (fun W (hc : Chg [] w W) => h'.same hc)
  have HP := Lib.hid (fun W (hc : Chg [] w W) => hP.new hc)
  have HM := Lib.hid (fun W (hc : Chg [] w W) => hM.new hc)
  have HX := Lib.hid (fun W (hc : Chg [] w W) => example_any W (hP.new hc))
  have HFl := Lib.hid hFl
  have Hc0 := Lib.hid (Chg.refl [] w)
  clear h h' hP hM hF hFl
  go_enter Tryd.func3, Tryd.ntmps3
  go_wp2_with fail
  refine (HX.out w Hc0.out).mono ?_
  rintro e w1 ⟨rfl, hc1⟩
  have Hc1 := Lib.hid hc1
  clear hc1
  go_wp2_with fail
  refine (stream_any p _ F w1 (H.out w1 Hc1.out) (by rw [HFl.out]; omega) (HP.out w1 Hc1.out)).mono ?_
  rintro e w2 ⟨hst, hc2⟩
  have Hc2 := Lib.hid (Hc1.out.trans hc2)
  clear hc2
  rcases hst with ⟨hb, rfl⟩ | rfl
  · have Hb := Lib.hid hb
    clear hb
    have Hsp := Lib.hid (split_whole F w2 (by rw [HFl.out]; omega) Hb.out (HM.out w2 Hc2.out))
    rw [HFl.out] at Hsp
    obtain ⟨s, hs⟩ : ∃ s, s = flB F := ⟨_, rfl⟩
    rw [← hs] at Hsp ⊢
    clear hs
    go_wp2_with fail
    refine Hsp.out.mono ?_
    rintro e w3 ⟨a3, c3, rfl, ho3, hc3⟩
    have H3 := Lib.hid ho3
    have Hc3 := Lib.hid (Hc2.out.trans hc3)
    clear ho3 hc3
    go_wp2_with fail
    refine (eqStrs_any _ p w3 _ _ F H3.out.strs (H.out w3 Hc3.out)).mono ?_
    rintro e w4 ⟨rfl, hc4⟩
    have Hc4 := Lib.hid (Hc3.out.trans hc4)
    clear hc4
    by_cases h0 : n = 0
    · subst h0
      go_wp2_with fail
      refine (HX.out w4 Hc4.out).mono ?_
      rintro e w5 ⟨rfl, hc5⟩
      have Hc5 := Lib.hid (Hc4.out.trans hc5)
      clear hc5
      go_wp2_with fail
      go_ret
      exact ⟨rfl, Hc5.out⟩
    · have hn0 : ((n : Int) == 0) = false := by simp; omega
      have hn1 : (n == 0) = false := by simp; omega
      have hn2 : (0 : Int) < n := by omega
      obtain ⟨g, off, rfl, hp, c0⟩ := (H.out w4 Hc4.out).cell 0 (by rw [HFl.out]; omega)
      have hbm : F.getD 0 ⟨#[]⟩ ∈ F := by
        have h1 : 0 < F.length := by rw [HFl.out]; omega
        rw [List.getD_eq_getElem?_getD, List.getElem?_eq_getElem h1]
        exact List.getElem_mem h1
      have hbs := Hb.out _ hbm
      clear hbm
      generalize F.getD 0 ⟨#[]⟩ = b at c0 hbs
      rw [Nat.add_zero] at c0
      have lb := lt_of_cell c0
      have Hbs := Lib.hid hbs
      have hfl : 1 ≤ (frB b).size ∧ (frB b).size ≤ 4024 := by
        rw [frB_size]
        exact ⟨by rw [frame_len]; omega, frame_le hbs⟩
      have Hen := Lib.hid (encode_yes b w4 (HP.out w4 Hc4.out) hbs)
      obtain ⟨f, hf⟩ : ∃ f, f = frB b := ⟨_, rfl⟩
      rw [← hf] at Hen hfl
      have Hf := Lib.hid hf
      obtain ⟨hf1, hf2⟩ := hfl
      clear hf hbs
      go_wp2_with fail
      refine Hen.out.mono ?_
      rintro e w5 ⟨rfl, hc5⟩
      have Hc5 := Lib.hid (Hc4.out.trans hc5)
      clear hc5
      obtain ⟨hm0, hm1⟩ := modI_bd z (f.size : Nat) (by omega)
      obtain ⟨m, hm⟩ : ∃ m : Nat, modI z (f.size : Nat) = m := ⟨(modI z (f.size : Nat)).toNat, by omega⟩
      have Hmod := Lib.hid (mod_any z (f.size : Nat) w5 (by omega) (by omega))
      rw [hm] at Hmod hm0 hm1
      have hmf : (m : Int) ≤ f.size := by omega
      have hpp : Pt b.size (f.extract 0 m).data.toList := by
        rw [ext_mid, List.drop_zero, Hf.out, frB_list, Nat.sub_zero]
        exact part_pt Hbs.out (by rw [← frB_size, ← Hf.out]; omega)
      have Hnx := Lib.hid (fun W (hc : Chg [] w W) => next_part (f.extract 0 m) b.size W Hbs.out (by rw [ByteArray.size_extract]; omega) (HM.out W hc) hpp)
      unfold NxPost at Hnx
      clear hm hpp
      go_wp2_with fail
      refine Hmod.out.mono ?_
      rintro e w6 ⟨rfl, rfl⟩
      go_wp2_with fail
      refine (Hnx.out w5 Hc5.out).mono ?_
      rintro e w7 ⟨rfl, hc7⟩
      have Hc7 := Lib.hid (Hc5.out.trans hc7)
      clear hc7
      go_wp2_with fail
      refine (HX.out w7 Hc7.out).mono ?_
      rintro e w8 ⟨rfl, hc8⟩
      have Hc8 := Lib.hid (Hc7.out.trans hc8)
      clear hc8
      go_wp2_with fail
      go_ret
      exact ⟨rfl, Hc8.out⟩
  · go_wp2_with fail
    refine (HX.out w2 Hc2.out).mono ?_
    rintro e w3 ⟨rfl, hc3⟩
    have Hc3 := Lib.hid (Hc2.out.trans hc3)
    clear hc3
    go_wp2_with fail
    go_ret
    exact ⟨rfl, Hc3.out⟩
end Go.Proofs.YtjcalbjblbbinaaDoor
