/- wordindex: validWords. -/
import Derived.Test.YticfigfipbcmhaaGreatDoorWiK
import Derived.Test.YticfigfipbcmhaaGreatDoorWiJ
namespace Go.Proofs.YticfigfipbcmhaaGreatDoor
open Go.RowKit Go.ChangeMaps Go.MapKept Go.Shelf
set_option linter.unusedVariables false
set_option linter.unusedSimpArgs false
theorem ByteArray_mem (z : ByteArray) (m : Nat) (h : m < z.size) : z[m] ∈ z.data.toList := by
  have e : z.data.toList[m]'(by simpa using h) = z[m] := rfl
  rw [← e]
  exact List.getElem_mem _
set_option maxRecDepth 100000 in
set_option maxHeartbeats 4000000 in
theorem validWords_any (p : Nat → Prop) (w : World) (v : Value) (l : List ByteArray) (h : StrsP p w v l) (hok : WsOk l) :
    Calls Tryz.prog 37 #[v] w fun e w' => e = .returned (.bool true) ∧ w' = w := by
  obtain ⟨a, cap, rfl, hml, hcp⟩ := h.shape
  have H := Lib.hid h
  have Hok := Lib.hid hok
  have hl4 : (l.length : Int) ≤ 400 := by have := hok.len; omega
  unfold maxLen at hml
  clear h hok
  go_enter Tryz.func37, Tryz.ntmps37
  go_wp2_with fail
  go_loopw [3, 9] (fun s i wr => ∃ (k q : Nat), k ≤ l.length ∧ i = .int .i64 (k : Nat) ∧ s = .int .i64 (q : Nat) ∧ q ≤ 2001 ∧ Hid (q = wsum (l.take k)) ∧ Hid (wr = w)) (fun _ i _ => l.length - (intOf i).toNat)
  case atStart => exact ⟨0, 0, by omega, rfl, rfl, by omega, Lib.hid rfl, Lib.hid rfl⟩
  case round =>
    obtain ⟨k, q, hk, rfl, rfl, hq, Hq, Hw⟩ := hrel
    by_cases hlt : k < l.length
    · obtain ⟨g, off, rfl, _, c0⟩ := (show StrsP p wr _ l by rw [Hw.out]; exact H.out).cell k hlt
      obtain ⟨z, hz⟩ : ∃ r, l.getD k ⟨#[]⟩ = r := ⟨_, rfl⟩
      have Hz := Lib.hid ((getD_eqS hlt).symm.trans hz)
      rw [hz] at c0
      have lg := lt_of_cell c0
      clear hz
      have hk1 : (k : Int) < l.length := by omega
      have hk0 : (0 : Int) ≤ (k : Int) := by omega
      have hzm : z ∈ l := by rw [← Hz.out]; exact List.getElem_mem hlt
      have hq2 : q + (z.size + 1) ≤ 2001 := by
        have h1 := wsum_take l k hlt
        have h2 := wsum_take_le l (k + 1)
        have h3 := Hok.out.sum
        rw [Hz.out] at h1
        have := Hq.out
        omega
      have Hq2 := Lib.hid (show q + (z.size + 1) = wsum (l.take (k + 1)) by rw [wsum_take l k hlt, Hz.out, Hq.out])
      have Hzw := Lib.hid (Hok.out.isw z hzm)
      have hze : (z.toList == []) = false := by
        rw [beq_eq_false_iff_ne, ByteArray.toList_eq]
        intro e
        have h1 := Hok.out.ne z hzm
        have : z.data.toList.length = 0 := by rw [e]; rfl
        have h3 : z.data.toList.length = z.size := rfl
        omega
      clear hzm
      go_upto_region 6 with (fail)
      by_cases hkz : k = 0
      · have hkp : decide ((0 : Int) < (k : Int)) = false := decide_eq_false (by omega)
        have hkn : decide (0 < k) = false := decide_eq_false (by omega)
        have hkm : ¬ (0 < (k : Int)) := by omega
        clear hkz
        go_wp2_with fail
        go_loopw [36] (fun i wx => ∃ m : Nat, m ≤ z.size ∧ i = .int .i64 (m : Nat) ∧ Hid (wx = w)) (fun i _ => z.size - (intOf i).toNat)
        case atStart => exact ⟨0, by omega, rfl, Hw⟩
        case round =>
          obtain ⟨m, hm, rfl, Hwx⟩ := hrel
          by_cases hmt : m < z.size
          · have hm1 : (m : Int) < z.size := by omega
            have hm0 : (0 : Int) ≤ (m : Int) := by omega
            have hwb := isWord_any z[m]
            rw [Hzw.out _ (by unfold bl; exact ByteArray_mem z m hmt)] at hwb
            have Hwb := Lib.hid hwb
            clear hwb
            go_wp2_with fail
            refine (Hwb.out _).mono ?_
            rintro e w5 ⟨rfl, rfl⟩
            go_wp2_with fail
            exact ⟨⟨m + 1, by omega, by go_num, Hwx⟩, by simp [intOf]; omega⟩
          · have hm1 : ¬ ((m : Int) < z.size) := by omega
            go_wp2_with fail
            exact ⟨⟨k + 1, q + (z.size + 1), by omega, by go_num, by go_num, hq2, Hq2, Hwx⟩, by simp [intOf]; omega⟩
      · have hkp : (0 : Int) < (k : Int) := by omega
        have hkn : decide (0 < k) = true := decide_eq_true (by omega)
        obtain ⟨j, hj⟩ : ∃ j : Nat, (k : Int) - 1 = (j : Int) := ⟨k - 1, by omega⟩
        have hjl : j < l.length := by omega
        obtain ⟨g', off', he, _, c1⟩ := (show StrsP p wr _ l by rw [Hw.out]; exact H.out).cell j hjl
        cases he
        obtain ⟨y, hy⟩ : ∃ r, l.getD j ⟨#[]⟩ = r := ⟨_, rfl⟩
        rw [hy] at c1
        have hyz : Op.bytesLess y.toList z.toList = true := by
          refine less_of ?_
          rw [← hy, ← Hz.out, getD_eqS hjl]
          exact (List.pairwise_iff_getElem.1 Hok.out.lt) j k hjl hlt (by omega)
        have hj1 : (j : Int) < l.length := by omega
        have hj0 : (0 : Int) ≤ (j : Int) := by omega
        have hjw : IntKind.i64.wrap ((k : Int) - 1) = (j : Int) := by rw [IntWalk.i64_in _ (by omega), hj]
        clear hy hkz
        go_wp2_with fail
        go_loopw [36] (fun i wx => ∃ m : Nat, m ≤ z.size ∧ i = .int .i64 (m : Nat) ∧ Hid (wx = w)) (fun i _ => z.size - (intOf i).toNat)
        case atStart => exact ⟨0, by omega, rfl, Hw⟩
        case round =>
          obtain ⟨m, hm, rfl, Hwx⟩ := hrel
          by_cases hmt : m < z.size
          · have hm1 : (m : Int) < z.size := by omega
            have hm0 : (0 : Int) ≤ (m : Int) := by omega
            have hwb := isWord_any z[m]
            rw [Hzw.out _ (by unfold bl; exact ByteArray_mem z m hmt)] at hwb
            have Hwb := Lib.hid hwb
            clear hwb
            go_wp2_with fail
            refine (Hwb.out _).mono ?_
            rintro e w5 ⟨rfl, rfl⟩
            go_wp2_with fail
            exact ⟨⟨m + 1, by omega, by go_num, Hwx⟩, by simp [intOf]; omega⟩
          · have hm1 : ¬ ((m : Int) < z.size) := by omega
            go_wp2_with fail
            exact ⟨⟨k + 1, q + (z.size + 1), by omega, by go_num, by go_num, hq2, Hq2, Hwx⟩, by simp [intOf]; omega⟩
    · have hk1 : ¬ ((k : Int) < l.length) := by omega
      have hkl : k = l.length := by omega
      have hq3 : (q : Int) ≤ 2001 := by omega
      clear hkl
      go_wp2_with fail
      go_ret
      exact ⟨rfl, Hw.out⟩
end Go.Proofs.YticfigfipbcmhaaGreatDoor
