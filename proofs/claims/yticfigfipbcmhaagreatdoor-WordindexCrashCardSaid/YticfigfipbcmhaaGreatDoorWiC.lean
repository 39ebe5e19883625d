/- wordindex: Words. -/
import Derived.Test.YticfigfipbcmhaaGreatDoorWiB
namespace Go.Proofs.YticfigfipbcmhaaGreatDoor
open Go.RowKit Go.ChangeMaps Go.MapKept Go.Shelf
set_option linter.unusedVariables false
set_option linter.unusedSimpArgs false
theorem bl_get (t : ByteArray) (m : Nat) (h : m < t.size) : (bl t)[m]'h = t[m] := rfl
theorem bl_extract (t : ByteArray) (k m : Nat) : bl (t.extract k m) = ((bl t).drop k).take (m - k) := by
  unfold bl
  rw [ByteArray.data_extract, Array.toList_extract]
theorem words_exit (t : ByteArray) (k m : Nat) (W : List ByteArray) (hR : W.map bl ++ runsA [] ((bl t).drop k) = runsA [] (bl t)) (hkm : k ≤ m) (hmt : m ≤ t.size) (hall : ∀ c ∈ ((bl t).drop k).take (m - k), isW c = true)
    (hstop : m = t.size ∨ ∃ h : m < t.size, isW t[m] = false) :
    (k < m → (W ++ [t.extract k m]).map bl ++ runsA [] ((bl t).drop (m + 1)) = runsA [] (bl t)) ∧ (m = k → W.map bl ++ runsA [] ((bl t).drop (m + 1)) = runsA [] (bl t)) := by
  have hsp : (bl t).drop k = ((bl t).drop k).take (m - k) ++ (bl t).drop m := by
    have := (List.take_append_drop (m - k) ((bl t).drop k)).symm
    rwa [List.drop_drop, show k + (m - k) = m by omega] at this
  have hlen : (((bl t).drop k).take (m - k)).length = m - k := by
    rw [List.length_take, List.length_drop, show (bl t).length = t.size from rfl]
    omega
  have hrun : runsA [] ((bl t).drop k) = (if ((bl t).drop k).take (m - k) = [] then [] else [((bl t).drop k).take (m - k)]) ++ runsA [] ((bl t).drop (m + 1)) := by
    obtain ⟨u, hu⟩ : ∃ u, u = ((bl t).drop k).take (m - k) := ⟨_, rfl⟩
    rw [← hu] at hsp hall ⊢
    rw [hsp, runsA_word _ _ _ hall, List.nil_append]
    rcases hstop with h | ⟨h, hw⟩
    · have e1 : (bl t).drop m = [] := List.drop_eq_nil_of_le (by rw [show (bl t).length = t.size from rfl]; omega)
      have e2 : (bl t).drop (m + 1) = [] := List.drop_eq_nil_of_le (by rw [show (bl t).length = t.size from rfl]; omega)
      rw [e1, e2]
      simp [runsA]
    · have e1 : (bl t).drop m = t[m] :: (bl t).drop (m + 1) := List.drop_eq_getElem_cons h
      rw [e1]
      simp only [runsA, hw, Bool.false_eq_true, if_false]
  constructor
  · intro hlt
    have hne : ((bl t).drop k).take (m - k) ≠ [] := fun e => by rw [e] at hlen; simp at hlen; omega
    rw [← hR, hrun, if_neg hne, List.map_append, List.append_assoc, List.map_cons, List.map_nil, bl_extract]
  · intro he
    have hnil : ((bl t).drop k).take (m - k) = [] := List.eq_nil_of_length_eq_zero (by omega)
    rw [← hR, hrun, if_pos hnil, List.nil_append]
theorem all_more (t : ByteArray) (k m : Nat) (hkm : k ≤ m) (hm : m < t.size) (hall : ∀ c ∈ ((bl t).drop k).take (m - k), isW c = true) (hw : isW t[m] = true) : ∀ c ∈ ((bl t).drop k).take (m + 1 - k), isW c = true := by
  have hlt : m - k < ((bl t).drop k).length := by rw [List.length_drop, show (bl t).length = t.size from rfl]; omega
  rw [show m + 1 - k = (m - k) + 1 by omega, List.take_succ_eq_append_getElem hlt]
  intro c hc
  rcases List.mem_append.1 hc with hc | hc
  · exact hall c hc
  · rw [List.mem_singleton.1 hc, List.getElem_drop]
    have : (bl t)[k + (m - k)]'(by rw [show (bl t).length = t.size from rfl]; omega) = t[m] := by
      have e : k + (m - k) = m := by omega
      simp only [e]
      rfl
    rw [this]; exact hw
theorem wordsR_of {t : ByteArray} {k : Nat} {W : List ByteArray} (hR : W.map bl ++ runsA [] ((bl t).drop k) = runsA [] (bl t)) (hk : t.size ≤ k) : W = wordsR t := by
  have e1 : (bl t).drop k = [] := List.drop_eq_nil_of_le (by rw [show (bl t).length = t.size from rfl]; omega)
  rw [e1] at hR
  unfold wordsR
  rw [← hR]
  simp [runsA, List.map_map, Function.comp_def, lb_bl]
set_option maxRecDepth 100000 in
set_option maxHeartbeats 4000000 in
theorem words_any (w : World) (t : ByteArray) (ht : t.size ≤ 2000) :
    Calls Tryz.prog 33 #[.string t] w fun e w' => ∃ a c, e = .returned (.slice a (words t).length c) ∧ StrsP (fun g => w.heap.size ≤ g ∧ g < w'.heap.size) w' (.slice a (words t).length c) (words t) ∧ Chg [] w w' := by
  go_enter Tryz.func33, Tryz.ntmps33
  go_wp2_with fail
  go_loopw [3, 4] (fun v3 i wr => ∃ (k : Nat) (W : List ByteArray) (a3 : Option Addr) (c3 : Nat), k ≤ t.size + 1 ∧ i = .int .i64 (k : Nat) ∧ v3 = .slice a3 W.length c3 ∧ Hid (OwnS wr w.heap.size v3 W ∧ Chg [] w wr) ∧ Hid (W.map bl ++ runsA [] ((bl t).drop k) = runsA [] (bl t)) ∧ W.length ≤ k) (fun _ i _ => t.size + 1 - (intOf i).toNat)
  case atStart => exact ⟨0, [], none, 0, by omega, rfl, rfl, Lib.hid ⟨OwnS.nil _ _, Chg.refl _ _⟩, Lib.hid (by simp), by simp⟩
  case round =>
    obtain ⟨k, W, a3, c3, hk, rfl, rfl, HO, HR, hWl⟩ := hrel
    by_cases hlt : k < t.size
    · have hk1 : (k : Int) < t.size := by omega
      go_wp2_with fail
      obtain ⟨w0, hw0⟩ : ∃ q, q = wr := ⟨_, rfl⟩
      have HO0 := HO
      rw [← hw0] at HO0
      have HW0 := Lib.hid hw0
      clear hw0
      go_loopw [4] (fun i wx => ∃ m : Nat, k ≤ m ∧ m ≤ t.size ∧ i = .int .i64 (m : Nat) ∧ Hid (wx = w0) ∧ Hid (∀ c ∈ ((bl t).drop k).take (m - k), isW c = true)) (fun i _ => t.size - (intOf i).toNat)
      case atStart => exact ⟨k, by omega, by omega, rfl, Lib.hid HW0.out.symm, Lib.hid (by simp)⟩
      case round =>
        obtain ⟨m, hkm, hmt, rfl, Hwx, Hall⟩ := hrel
        by_cases hm : m < t.size
        · have hm1 : (m : Int) < t.size := by omega
          have hm0 : (0 : Int) ≤ (m : Int) := by omega
          have hwb := isWord_any t[m]
          obtain ⟨b, hb⟩ : ∃ b, isW t[m] = b := ⟨_, rfl⟩
          rw [hb] at hwb
          have Hwb := Lib.hid hwb
          have Hb := Lib.hid hb
          clear hwb hb
          go_wp2_with fail
          refine (Hwb.out _).mono ?_
          rintro e w5 ⟨rfl, rfl⟩
          cases b
          · obtain ⟨X1, X2⟩ := words_exit t k m W HR.out hkm hmt Hall.out (Or.inr ⟨hm, Hb.out⟩)
            have HX := Lib.hid (And.intro X1 X2)
            clear X1 X2
            by_cases hmk : k < m
            · have hgt : (k : Int) < (m : Int) := by omega
              have hms : (m : Int) ≤ t.size := by omega
              have hk00 : (0 : Int) ≤ (k : Int) := by omega
              have hkle : (k : Int) ≤ (m : Int) := by omega
              have ho5 : OwnS w5 w.heap.size (.slice a3 W.length c3) W := by rw [Hwx.out]; exact HO0.out.1
              have hc5 : Chg [] w w5 := by rw [Hwx.out]; exact HO0.out.2
              obtain ⟨x, hx⟩ : ∃ x, x = t.extract k m := ⟨_, rfl⟩
              obtain ⟨w6, hw6⟩ : ∃ q, q = w5.alloc (.cells #[.string (t.extract k m)] 9) := ⟨_, rfl⟩
              obtain ⟨n6, hn6⟩ : ∃ n, n = w5.heap.size := ⟨_, rfl⟩
              have hc6 : Chg [] w5 w6 := by rw [hw6]; exact (Chg.refl [] _).alloc _
              have hb6 : w6.heap[n6]? = some (.cells #[.string (t.extract k m)] 9 (0, 0)) := by rw [hw6, hn6]; exact heap_at _ _ _ rfl
              obtain ⟨v7, w7, hr7, ho7, hc7⟩ := run_append_strs w6 22 w.heap.size _ _ _ W [t.extract k m] (ho5.same hc6) (str1_at hb6) (by simp only [List.length_cons, List.length_nil]; omega) (hc5.trans hc6).size
              obtain ⟨a7, c7, rfl⟩ := ownsRow_shape ho7
              have hOl : (W ++ [t.extract k m]).length = W.length + 1 := by simp
              rw [hOl] at hr7
              have H7 := Lib.hid (show OwnS w7 w.heap.size (.slice a7 (W.length + 1) c7) (W ++ [t.extract k m]) ∧ Chg [] w w7 from ⟨by rw [← hOl]; exact ho7, (hc5.trans hc6).comp hc7 fun g hg => Or.inr ((ho5.same hc6).lt g (by simpa using hg)).1⟩)
              have Hr7 := Lib.hid hr7
              have HW6 := Lib.hid (And.intro hw6 hn6)
              have HOl := Lib.hid hOl
              have hRn := Lib.hid (HX.out.1 hmk)
              clear ho5 hc5 hw6 hn6 hc6 hb6 hr7 ho7 hc7 hx hOl hmk
              go_wp2_with (at_builtin; rw [← HW6.out.1, ← HW6.out.2]; refine wpList_append_run rfl _ _ _ rfl _ _ _ _ rfl rfl Hr7.out ?_)
              refine ⟨⟨m + 1, W ++ [t.extract k m], a7, c7, by omega, by go_num, by rw [HOl.out], H7, hRn, by rw [HOl.out]; omega⟩, by simp [intOf]; omega⟩
            · have hgt : ¬ ((k : Int) < (m : Int)) := by omega
              have hRn := Lib.hid (HX.out.2 (by omega))
              have H5 := Lib.hid (show OwnS w5 w.heap.size (.slice a3 W.length c3) W ∧ Chg [] w w5 by rw [Hwx.out]; exact HO0.out)
              go_wp2_with fail
              exact ⟨⟨m + 1, W, a3, c3, by omega, by go_num, rfl, H5, hRn, by omega⟩, by simp [intOf]; omega⟩
          · go_wp2_with fail
            exact ⟨⟨m + 1, by omega, by omega, by go_num, Hwx, Lib.hid (all_more t k m hkm hm Hall.out Hb.out)⟩, by simp [intOf]; omega⟩
        · obtain ⟨X1, X2⟩ := words_exit t k m W HR.out hkm hmt Hall.out (Or.inl (by omega))
          have HX := Lib.hid (And.intro X1 X2)
          have hm1 : ¬ ((m : Int) < t.size) := by omega
          clear X1 X2
          by_cases hmk : k < m
          · have hgt : (k : Int) < (m : Int) := by omega
            have hms : (m : Int) ≤ t.size := by omega
            have hk00 : (0 : Int) ≤ (k : Int) := by omega
            have hkle : (k : Int) ≤ (m : Int) := by omega
            have ho5 : OwnS wr w.heap.size (.slice a3 W.length c3) W := by rw [Hwx.out]; exact HO0.out.1
            have hc5 : Chg [] w wr := by rw [Hwx.out]; exact HO0.out.2
            obtain ⟨x, hx⟩ : ∃ x, x = t.extract k m := ⟨_, rfl⟩
            obtain ⟨w6, hw6⟩ : ∃ q, q = wr.alloc (.cells #[.string (t.extract k m)] 9) := ⟨_, rfl⟩
            obtain ⟨n6, hn6⟩ : ∃ n, n = wr.heap.size := ⟨_, rfl⟩
            have hc6 : Chg [] wr w6 := by rw [hw6]; exact (Chg.refl [] _).alloc _
            have hb6 : w6.heap[n6]? = some (.cells #[.string (t.extract k m)] 9 (0, 0)) := by rw [hw6, hn6]; exact heap_at _ _ _ rfl
            obtain ⟨v7, w7, hr7, ho7, hc7⟩ := run_append_strs w6 22 w.heap.size _ _ _ W [t.extract k m] (ho5.same hc6) (str1_at hb6) (by simp only [List.length_cons, List.length_nil]; omega) (hc5.trans hc6).size
            obtain ⟨a7, c7, rfl⟩ := ownsRow_shape ho7
            have hOl : (W ++ [t.extract k m]).length = W.length + 1 := by simp
            rw [hOl] at hr7
            have H7 := Lib.hid (show OwnS w7 w.heap.size (.slice a7 (W.length + 1) c7) (W ++ [t.extract k m]) ∧ Chg [] w w7 from ⟨by rw [← hOl]; exact ho7, (hc5.trans hc6).comp hc7 fun g hg => Or.inr ((ho5.same hc6).lt g (by simpa using hg)).1⟩)
            have Hr7 := Lib.hid hr7
            have HW6 := Lib.hid (And.intro hw6 hn6)
            have HOl := Lib.hid hOl
            have hRn := Lib.hid (HX.out.1 hmk)
            clear ho5 hc5 hw6 hn6 hc6 hb6 hr7 ho7 hc7 hx hOl hmk
            go_wp2_with (at_builtin; rw [← HW6.out.1, ← HW6.out.2]; refine wpList_append_run rfl _ _ _ rfl _ _ _ _ rfl rfl Hr7.out ?_)
            refine ⟨⟨m + 1, W ++ [t.extract k m], a7, c7, by omega, by go_num, by rw [HOl.out], H7, hRn, by rw [HOl.out]; omega⟩, by simp [intOf]; omega⟩
          · have hgt : ¬ ((k : Int) < (m : Int)) := by omega
            have hRn := Lib.hid (HX.out.2 (by omega))
            have H5 := Lib.hid (show OwnS wr w.heap.size (.slice a3 W.length c3) W ∧ Chg [] w wr by rw [Hwx.out]; exact HO0.out)
            go_wp2_with fail
            exact ⟨⟨m + 1, W, a3, c3, by omega, by go_num, rfl, H5, hRn, by omega⟩, by simp [intOf]; omega⟩
    · have hk1 : ¬ ((k : Int) < t.size) := by omega
      have hW : W = wordsR t := wordsR_of HR.out (by omega)
      have hso := sortStrsU_any _ W _ wr HO.out.1 (by omega)
      have Hso := Lib.hid hso
      have HW := Lib.hid hW
      clear hso hW
      go_wp2_with fail
      refine Hso.out.mono ?_
      rintro e w1 ⟨rfl, hu, hc1⟩
      have hcm := compactStrs_any _ w1 _ _ hu
      have Hcm := Lib.hid hcm
      have H1 := Lib.hid (HO.out.2.comp hc1 fun g hg => Or.inr (HO.out.1.lt g (by simpa using hg)).1)
      have hsz1 := hc1.size
      clear hcm hu hc1
      go_wp2_with fail
      refine Hcm.out.mono ?_
      rintro e w2 ⟨a2, c2, rfl, h1, h2, hs, hc2⟩
      have hdd : dd (srt W) = wordsD t := by rw [HW.out]; rfl
      rw [hdd] at h1 hs ⊢
      obtain ⟨q, hq⟩ : ∃ q, q = min (wordsD t).length 400 := ⟨_, rfl⟩
      have hqm : min (((wordsD t).length : Nat) : Int) 400 = (q : Int) := by omega
      have hqc : q ≤ c2 := by omega
      have hql : q ≤ (wordsD t).length := by omega
      have hwq : (words t).length = q := by unfold words; rw [List.length_take, hq]; omega
      have hwt : words t = (wordsD t).take q := by
        unfold words
        by_cases h4 : (wordsD t).length ≤ 400
        · rw [List.take_of_length_le h4, List.take_of_length_le (by omega)]
        · rw [show q = 400 by omega]
      have hs2 := hs.take q hql
      rw [← hwt] at hs2
      have hch := H1.out.comp hc2 fun g hg => Or.inr (HO.out.1.lt g (by simpa using hg)).1
      have H2 := Lib.hid (show StrsP (fun g => w.heap.size ≤ g ∧ g < w2.heap.size) w2 (.slice a2 (words t).length c2) (words t) ∧ Chg [] w w2 from ⟨by
        rw [hwq]
        have := hch.size
        have := H1.out.size
        refine hs2.imp fun g hg => ?_
        have := HO.out.2.size
        have := hc2.size
        omega, hch⟩)
      have Hwq := Lib.hid hwq
      unfold maxLen at h2
      clear hdd hq hwq hwt hs hs2 hch hc2
      go_wp2_with fail
      go_ret
      exact ⟨a2, c2, by rw [Hwq.out]; rfl, H2.out.1, H2.out.2⟩
end Go.Proofs.YticfigfipbcmhaaGreatDoor
