/- Protocol messages with any body: validMethod, wellFormed (printed by wip/gen_jrb.py). -/
import Derived.Test.YtiklgipcgdgkoaaDoorJrA
namespace Go.Proofs.YtiklgipcgdgkoaaDoor.Jv
open Go.RowKit Go.ChangeMaps Go.MapKept
set_option linter.unusedVariables false
set_option linter.unusedSimpArgs false
theorem ne_empty {t : ByteArray} (ht : t ≠ ⟨#[]⟩) : t.toList.isEmpty = false := by
  cases h : t.toList with
  | nil => exact absurd (by have := beqS t ⟨#[]⟩; rw [h] at this; simpa using this) ht
  | cons x y => rfl
set_option maxHeartbeats 4000000 in
theorem vm1 (i c ek en : Int) (t et : ByteArray) (na ia : Option Addr) (nl nc il ic : Nat) (w : World) (hT : Tb w) (hs : t.size ≤ maxLen) : Calls Tryd.prog 50 #[.agg #[.int .i64 1, .int .i64 i, .int .i64 c, .string t, .int .i64 ek, .int .i64 en, .string et, .slice na nl nc, .slice ia il ic]] w fun e w' => e = .returned (.bool (vmM 1 t)) ∧ Chg [] w w' := by
  have Hc := Lib.hid ((Chg.refl [] w).alloc (.cells #[.int .i64 1, .int .i64 i, .int .i64 c, .string t, .int .i64 ek, .int .i64 en, .string et, .slice na nl nc, .slice ia il ic] 27))
  have H := Lib.hid (fun W (hc : Chg [] w W) => validText_b t 1 W (hT.new hc) hs)
  have HF : Hid (vmM 1 t = vtx 1 t) := Lib.hid rfl
  generalize vtx 1 t = b at H HF
  clear hT hs
  go_enter Tryd.func50, Tryd.ntmps50
  go_wp2_with fail
  refine (H.out _ Hc.out).mono ?_
  rintro e w1 ⟨rfl, hc⟩
  have Hc1 := Lib.hid (Hc.out.trans hc)
  clear hc
  go_wp2_with fail
  go_ret
  exact ⟨by rw [HF.out]; rfl, Hc1.out⟩
set_option maxHeartbeats 4000000 in
theorem vm2 (i c ek en : Int) (t et : ByteArray) (na ia : Option Addr) (nl nc il ic : Nat) (w : World) (hT : Tb w) (hs : t.size ≤ maxLen) : Calls Tryd.prog 50 #[.agg #[.int .i64 2, .int .i64 i, .int .i64 c, .string t, .int .i64 ek, .int .i64 en, .string et, .slice na nl nc, .slice ia il ic]] w fun e w' => e = .returned (.bool (vmM 2 t)) ∧ Chg [] w w' := by
  have Hc := Lib.hid ((Chg.refl [] w).alloc (.cells #[.int .i64 2, .int .i64 i, .int .i64 c, .string t, .int .i64 ek, .int .i64 en, .string et, .slice na nl nc, .slice ia il ic] 27))
  have H := Lib.hid (fun W (hc : Chg [] w W) => validText_b t 1 W (hT.new hc) hs)
  have HF : Hid (vmM 2 t = (vtx 1 t && decide (t ≠ cancelT))) := Lib.hid rfl
  have hbq : (t.toList == cancelT.toList) = decide (t = cancelT) := beqS t cancelT
  rw [show cancelT.toList = ([36, 47, 99, 97, 110, 99, 101, 108] : List UInt8) by rw [ByteArray.toList_eq]; rfl] at hbq
  have hbn : (t.toList != ([36, 47, 99, 97, 110, 99, 101, 108] : List UInt8)) = !decide (t = cancelT) := by unfold bne; rw [hbq]
  rw [show decide (t ≠ cancelT) = !decide (t = cancelT) by simp] at HF
  generalize decide (t = cancelT) = d at HF hbq hbn
  generalize vtx 1 t = b at H HF
  have hm0 := heap_at w (.cells #[.int .i64 2, .int .i64 i, .int .i64 c, .string t, .int .i64 ek, .int .i64 en, .string et, .slice na nl nc, .slice ia il ic] 27) w.heap.size rfl
  have Hm := Lib.hid (And.intro (show (w.alloc (.cells #[.int .i64 2, .int .i64 i, .int .i64 c, .string t, .int .i64 ek, .int .i64 en, .string et, .slice na nl nc, .slice ia il ic] 27)).cell? ⟨w.heap.size, 3, none⟩ = some (.string t) from cell_of_heap hm0 rfl) (lt_of_obj hm0))
  clear hT hs hm0
  cases b
  all_goals
    go_enter Tryd.func50, Tryd.ntmps50
    go_wp2_with fail
    refine (H.out _ Hc.out).mono ?_
    rintro e w1 ⟨rfl, hc⟩
    have Hc1 := Lib.hid (Hc.out.trans hc)
    have q3 := (hc.cell (p := ⟨w.heap.size, 3, none⟩) Hm.out.2 (by simp)).trans Hm.out.1
    clear hc
    go_wp2_with fail
    all_goals
      go_ret
      exact ⟨by rw [HF.out]; rfl, Hc1.out⟩
set_option maxHeartbeats 4000000 in
theorem vm3 (i c ek en : Int) (t et : ByteArray) (na ia : Option Addr) (nl nc il ic : Nat) (w : World) (hT : Tb w) (hs : t.size ≤ maxLen) : Calls Tryd.prog 50 #[.agg #[.int .i64 3, .int .i64 i, .int .i64 c, .string t, .int .i64 ek, .int .i64 en, .string et, .slice na nl nc, .slice ia il ic]] w fun e w' => e = .returned (.bool (vmM 3 t)) ∧ Chg [] w w' := by
  have Hc := Lib.hid ((Chg.refl [] w).alloc (.cells #[.int .i64 3, .int .i64 i, .int .i64 c, .string t, .int .i64 ek, .int .i64 en, .string et, .slice na nl nc, .slice ia il ic] 27))
  have HF : Hid (vmM 3 t = decide (t = ⟨#[]⟩)) := Lib.hid rfl
  clear hT hs
  by_cases ht : t = ⟨#[]⟩
  · subst ht
    go_enter Tryd.func50, Tryd.ntmps50
    go_wp2_with fail
    go_ret
    exact ⟨by rw [HF.out]; rfl, Hc.out⟩
  · have h0 := ne_empty ht
    rw [decide_eq_false ht] at HF
    clear ht
    go_enter Tryd.func50, Tryd.ntmps50
    go_wp2_with fail
    go_ret
    exact ⟨by rw [HF.out]; rfl, Hc.out⟩
set_option maxHeartbeats 4000000 in
theorem vm4 (i c ek en : Int) (t et : ByteArray) (na ia : Option Addr) (nl nc il ic : Nat) (w : World) (hT : Tb w) (hs : t.size ≤ maxLen) : Calls Tryd.prog 50 #[.agg #[.int .i64 4, .int .i64 i, .int .i64 c, .string t, .int .i64 ek, .int .i64 en, .string et, .slice na nl nc, .slice ia il ic]] w fun e w' => e = .returned (.bool (vmM 4 t)) ∧ Chg [] w w' := by
  have Hc := Lib.hid ((Chg.refl [] w).alloc (.cells #[.int .i64 4, .int .i64 i, .int .i64 c, .string t, .int .i64 ek, .int .i64 en, .string et, .slice na nl nc, .slice ia il ic] 27))
  have H := Lib.hid (fun W (hc : Chg [] w W) => validText_b t 0 W (hT.new hc) hs)
  have HF : Hid (vmM 4 t = vtx 0 t) := Lib.hid rfl
  generalize vtx 0 t = b at H HF
  clear hT hs
  go_enter Tryd.func50, Tryd.ntmps50
  go_wp2_with fail
  refine (H.out _ Hc.out).mono ?_
  rintro e w1 ⟨rfl, hc⟩
  have Hc1 := Lib.hid (Hc.out.trans hc)
  clear hc
  go_wp2_with fail
  go_ret
  exact ⟨by rw [HF.out]; rfl, Hc1.out⟩
set_option maxHeartbeats 4000000 in
theorem vm5 (i c ek en : Int) (t et : ByteArray) (na ia : Option Addr) (nl nc il ic : Nat) (w : World) (hT : Tb w) (hs : t.size ≤ maxLen) : Calls Tryd.prog 50 #[.agg #[.int .i64 5, .int .i64 i, .int .i64 c, .string t, .int .i64 ek, .int .i64 en, .string et, .slice na nl nc, .slice ia il ic]] w fun e w' => e = .returned (.bool (vmM 5 t)) ∧ Chg [] w w' := by
  have Hc := Lib.hid ((Chg.refl [] w).alloc (.cells #[.int .i64 5, .int .i64 i, .int .i64 c, .string t, .int .i64 ek, .int .i64 en, .string et, .slice na nl nc, .slice ia il ic] 27))
  have HF : Hid (vmM 5 t = decide (t = ⟨#[]⟩)) := Lib.hid rfl
  clear hT hs
  by_cases ht : t = ⟨#[]⟩
  · subst ht
    go_enter Tryd.func50, Tryd.ntmps50
    go_wp2_with fail
    go_ret
    exact ⟨by rw [HF.out]; rfl, Hc.out⟩
  · have h0 := ne_empty ht
    rw [decide_eq_false ht] at HF
    clear ht
    go_enter Tryd.func50, Tryd.ntmps50
    go_wp2_with fail
    go_ret
    exact ⟨by rw [HF.out]; rfl, Hc.out⟩
/-- is a message well formed -/
def wfB (k i c : Int) (t : ByteArray) (e : Ev) : Bool := (if k = 2 then decide (i = 0) else decide (0 ≤ i) && decide (i ≤ 2147483647)) && ((if k = 4 then decide (1 ≤ c) && decide (c ≤ 99) else decide (c = 0)) && ((if k = 4 ∨ k = 5 then isN e else true) && vmM k t))
set_option maxHeartbeats 16000000 in
theorem wfm1 (i c ek en : Int) (t et : ByteArray) (na ia : Option Addr) (nl nc il ic : Nat) (w : World) (hT : Tb w) (hs : t.size ≤ maxLen) (hl : nl ≤ maxLen ∧ il ≤ maxLen) : Calls Tryd.prog 31 #[.agg #[.int .i64 1, .int .i64 i, .int .i64 c, .string t, .int .i64 ek, .int .i64 en, .string et, .slice na nl nc, .slice ia il ic]] w fun e w' => e = .returned (.bool (wfB 1 i c t ⟨ek, en, et, na, nl, nc, ia, il, ic⟩)) ∧ Chg [] w w' := by
  obtain ⟨w1, hw1⟩ : ∃ x, x = w.alloc (.cells #[.int .i64 1, .int .i64 i, .int .i64 c, .string t, .int .i64 ek, .int .i64 en, .string et, .slice na nl nc, .slice ia il ic] 27) := ⟨_, rfl⟩
  obtain ⟨B, hB⟩ : ∃ x, x = w.heap.size := ⟨_, rfl⟩
  have hc1' : Chg [] w w1 := by rw [hw1]; exact (Chg.refl _ _).alloc _
  have hb1 : w1.heap[B]? = some (.cells #[.int .i64 1, .int .i64 i, .int .i64 c, .string t, .int .i64 ek, .int .i64 en, .string et, .slice na nl nc, .slice ia il ic] 27 (0, 0)) := by rw [hw1, hB]; exact heap_at _ _ _ rfl
  have HM := Lib.hid (fun W (hW : Chg [] w W) => vm1 i c ek en t et na ia nl nc il ic W (hT.new hW) hs)
  have HZ := Lib.hid (fun W => isNull_any ⟨ek, en, et, na, nl, nc, ia, il, ic⟩ hl W)
  unfold Ev.val at HZ
  simp only at HZ
  have Hc := Lib.hid hc1'
  have Hb := Lib.hid hb1
  have fin : ∀ b : Bool, wfB 1 i c t ⟨ek, en, et, na, nl, nc, ia, il, ic⟩ = b → Hid (wfB 1 i c t ⟨ek, en, et, na, nl, nc, ia, il, ic⟩ = b) := fun b h => Lib.hid h
  clear hT hc1' hb1 hs hl
  by_cases hi0 : i < 0
  · have dhi0 : (decide (i < 0)) = true := decide_eq_true hi0
    have HF := fin false (by simp [wfB, show ¬ (0 ≤ i) by omega])
    clear fin HZ HM
    go_enter Tryd.func31, Tryd.ntmps31
    go_upto_region 1 with fail
    rw [← hw1, ← hB]
    clear hw1 hB
    obtain ⟨b0, b1, b2, b3, b4, b5, b6, b7, b8⟩ := msg_cells B Hb.out (Chg.refl [] w1)
    go_wp2_with fail
    go_ret
    exact ⟨by rw [HF.out]; rfl, Hc.out⟩
  · have dhi0 : (decide (i < 0)) = false := decide_eq_false hi0
    have ghi0 : 0 ≤ i := by omega
    by_cases hi1 : i > 2147483647
    · have dhi1 : (decide (i > 2147483647)) = true := decide_eq_true hi1
      have HF := fin false (by simp [wfB, ghi0, show ¬ (i ≤ 2147483647) by omega])
      clear fin HZ HM
      go_enter Tryd.func31, Tryd.ntmps31
      go_upto_region 1 with fail
      rw [← hw1, ← hB]
      clear hw1 hB
      obtain ⟨b0, b1, b2, b3, b4, b5, b6, b7, b8⟩ := msg_cells B Hb.out (Chg.refl [] w1)
      go_wp2_with fail
      go_ret
      exact ⟨by rw [HF.out]; rfl, Hc.out⟩
    · have dhi1 : (decide (i > 2147483647)) = false := decide_eq_false hi1
      have ghi1 : i ≤ 2147483647 := by omega
      by_cases hcz : c ≠ 0
      · have dhcz : (c != 0) = true := by simpa using hcz
        have HF := fin false (by simp [wfB, ghi0, ghi1, show ¬ (c = 0) by omega])
        clear fin HZ HM
        go_enter Tryd.func31, Tryd.ntmps31
        go_upto_region 1 with fail
        rw [← hw1, ← hB]
        clear hw1 hB
        obtain ⟨b0, b1, b2, b3, b4, b5, b6, b7, b8⟩ := msg_cells B Hb.out (Chg.refl [] w1)
        go_wp2_with fail
        go_ret
        exact ⟨by rw [HF.out]; rfl, Hc.out⟩
      · have dhcz : (c != 0) = false := by simpa using hcz
        have ghcz : c = 0 := by omega
        subst ghcz
        have HF := fin (vmM 1 t) (by simp [wfB, ghi0, ghi1])
        clear fin
        generalize vmM 1 t = b at HF HM
        go_enter Tryd.func31, Tryd.ntmps31
        go_upto_region 1 with fail
        rw [← hw1, ← hB]
        clear hw1 hB
        obtain ⟨b0, b1, b2, b3, b4, b5, b6, b7, b8⟩ := msg_cells B Hb.out (Chg.refl [] w1)
        go_wp2_with fail
        refine (HM.out w1 Hc.out).mono ?_
        rintro e w3 ⟨rfl, hc3⟩
        have Hc3 := Lib.hid (Hc.out.trans hc3)
        clear hc3
        go_wp2_with fail
        go_ret
        exact ⟨by rw [HF.out]; rfl, Hc3.out⟩
set_option maxHeartbeats 16000000 in
theorem wfm2 (i c ek en : Int) (t et : ByteArray) (na ia : Option Addr) (nl nc il ic : Nat) (w : World) (hT : Tb w) (hs : t.size ≤ maxLen) (hl : nl ≤ maxLen ∧ il ≤ maxLen) : Calls Tryd.prog 31 #[.agg #[.int .i64 2, .int .i64 i, .int .i64 c, .string t, .int .i64 ek, .int .i64 en, .string et, .slice na nl nc, .slice ia il ic]] w fun e w' => e = .returned (.bool (wfB 2 i c t ⟨ek, en, et, na, nl, nc, ia, il, ic⟩)) ∧ Chg [] w w' := by
  obtain ⟨w1, hw1⟩ : ∃ x, x = w.alloc (.cells #[.int .i64 2, .int .i64 i, .int .i64 c, .string t, .int .i64 ek, .int .i64 en, .string et, .slice na nl nc, .slice ia il ic] 27) := ⟨_, rfl⟩
  obtain ⟨B, hB⟩ : ∃ x, x = w.heap.size := ⟨_, rfl⟩
  have hc1' : Chg [] w w1 := by rw [hw1]; exact (Chg.refl _ _).alloc _
  have hb1 : w1.heap[B]? = some (.cells #[.int .i64 2, .int .i64 i, .int .i64 c, .string t, .int .i64 ek, .int .i64 en, .string et, .slice na nl nc, .slice ia il ic] 27 (0, 0)) := by rw [hw1, hB]; exact heap_at _ _ _ rfl
  have HM := Lib.hid (fun W (hW : Chg [] w W) => vm2 i c ek en t et na ia nl nc il ic W (hT.new hW) hs)
  have HZ := Lib.hid (fun W => isNull_any ⟨ek, en, et, na, nl, nc, ia, il, ic⟩ hl W)
  unfold Ev.val at HZ
  simp only at HZ
  have Hc := Lib.hid hc1'
  have Hb := Lib.hid hb1
  have fin : ∀ b : Bool, wfB 2 i c t ⟨ek, en, et, na, nl, nc, ia, il, ic⟩ = b → Hid (wfB 2 i c t ⟨ek, en, et, na, nl, nc, ia, il, ic⟩ = b) := fun b h => Lib.hid h
  clear hT hc1' hb1 hs hl
  by_cases hiz : i ≠ 0
  · have dhiz : (i != 0) = true := by simpa using hiz
    have HF := fin false (by simp [wfB, show ¬ (i = 0) by omega])
    clear fin HZ HM
    go_enter Tryd.func31, Tryd.ntmps31
    go_upto_region 1 with fail
    rw [← hw1, ← hB]
    clear hw1 hB
    obtain ⟨b0, b1, b2, b3, b4, b5, b6, b7, b8⟩ := msg_cells B Hb.out (Chg.refl [] w1)
    go_wp2_with fail
    go_ret
    exact ⟨by rw [HF.out]; rfl, Hc.out⟩
  · have dhiz : (i != 0) = false := by simpa using hiz
    have ghiz : i = 0 := by omega
    subst ghiz
    by_cases hcz : c ≠ 0
    · have dhcz : (c != 0) = true := by simpa using hcz
      have HF := fin false (by simp [wfB, show ¬ (c = 0) by omega])
      clear fin HZ HM
      go_enter Tryd.func31, Tryd.ntmps31
      go_upto_region 1 with fail
      rw [← hw1, ← hB]
      clear hw1 hB
      obtain ⟨b0, b1, b2, b3, b4, b5, b6, b7, b8⟩ := msg_cells B Hb.out (Chg.refl [] w1)
      go_wp2_with fail
      go_ret
      exact ⟨by rw [HF.out]; rfl, Hc.out⟩
    · have dhcz : (c != 0) = false := by simpa using hcz
      have ghcz : c = 0 := by omega
      subst ghcz
      have HF := fin (vmM 2 t) (by simp [wfB, vmM])
      clear fin
      generalize vmM 2 t = b at HF HM
      go_enter Tryd.func31, Tryd.ntmps31
      go_upto_region 1 with fail
      rw [← hw1, ← hB]
      clear hw1 hB
      obtain ⟨b0, b1, b2, b3, b4, b5, b6, b7, b8⟩ := msg_cells B Hb.out (Chg.refl [] w1)
      go_wp2_with fail
      refine (HM.out w1 Hc.out).mono ?_
      rintro e w3 ⟨rfl, hc3⟩
      have Hc3 := Lib.hid (Hc.out.trans hc3)
      clear hc3
      go_wp2_with fail
      go_ret
      exact ⟨by rw [HF.out]; rfl, Hc3.out⟩
set_option maxHeartbeats 16000000 in
theorem wfm3 (i c ek en : Int) (t et : ByteArray) (na ia : Option Addr) (nl nc il ic : Nat) (w : World) (hT : Tb w) (hs : t.size ≤ maxLen) (hl : nl ≤ maxLen ∧ il ≤ maxLen) : Calls Tryd.prog 31 #[.agg #[.int .i64 3, .int .i64 i, .int .i64 c, .string t, .int .i64 ek, .int .i64 en, .string et, .slice na nl nc, .slice ia il ic]] w fun e w' => e = .returned (.bool (wfB 3 i c t ⟨ek, en, et, na, nl, nc, ia, il, ic⟩)) ∧ Chg [] w w' := by
  obtain ⟨w1, hw1⟩ : ∃ x, x = w.alloc (.cells #[.int .i64 3, .int .i64 i, .int .i64 c, .string t, .int .i64 ek, .int .i64 en, .string et, .slice na nl nc, .slice ia il ic] 27) := ⟨_, rfl⟩
  obtain ⟨B, hB⟩ : ∃ x, x = w.heap.size := ⟨_, rfl⟩
  have hc1' : Chg [] w w1 := by rw [hw1]; exact (Chg.refl _ _).alloc _
  have hb1 : w1.heap[B]? = some (.cells #[.int .i64 3, .int .i64 i, .int .i64 c, .string t, .int .i64 ek, .int .i64 en, .string et, .slice na nl nc, .slice ia il ic] 27 (0, 0)) := by rw [hw1, hB]; exact heap_at _ _ _ rfl
  have HM := Lib.hid (fun W (hW : Chg [] w W) => vm3 i c ek en t et na ia nl nc il ic W (hT.new hW) hs)
  have HZ := Lib.hid (fun W => isNull_any ⟨ek, en, et, na, nl, nc, ia, il, ic⟩ hl W)
  unfold Ev.val at HZ
  simp only at HZ
  have Hc := Lib.hid hc1'
  have Hb := Lib.hid hb1
  have fin : ∀ b : Bool, wfB 3 i c t ⟨ek, en, et, na, nl, nc, ia, il, ic⟩ = b → Hid (wfB 3 i c t ⟨ek, en, et, na, nl, nc, ia, il, ic⟩ = b) := fun b h => Lib.hid h
  clear hT hc1' hb1 hs hl
  by_cases hi0 : i < 0
  · have dhi0 : (decide (i < 0)) = true := decide_eq_true hi0
    have HF := fin false (by simp [wfB, show ¬ (0 ≤ i) by omega])
    clear fin HZ HM
    go_enter Tryd.func31, Tryd.ntmps31
    go_upto_region 1 with fail
    rw [← hw1, ← hB]
    clear hw1 hB
    obtain ⟨b0, b1, b2, b3, b4, b5, b6, b7, b8⟩ := msg_cells B Hb.out (Chg.refl [] w1)
    go_wp2_with fail
    go_ret
    exact ⟨by rw [HF.out]; rfl, Hc.out⟩
  · have dhi0 : (decide (i < 0)) = false := decide_eq_false hi0
    have ghi0 : 0 ≤ i := by omega
    by_cases hi1 : i > 2147483647
    · have dhi1 : (decide (i > 2147483647)) = true := decide_eq_true hi1
      have HF := fin false (by simp [wfB, ghi0, show ¬ (i ≤ 2147483647) by omega])
      clear fin HZ HM
      go_enter Tryd.func31, Tryd.ntmps31
      go_upto_region 1 with fail
      rw [← hw1, ← hB]
      clear hw1 hB
      obtain ⟨b0, b1, b2, b3, b4, b5, b6, b7, b8⟩ := msg_cells B Hb.out (Chg.refl [] w1)
      go_wp2_with fail
      go_ret
      exact ⟨by rw [HF.out]; rfl, Hc.out⟩
    · have dhi1 : (decide (i > 2147483647)) = false := decide_eq_false hi1
      have ghi1 : i ≤ 2147483647 := by omega
      by_cases hcz : c ≠ 0
      · have dhcz : (c != 0) = true := by simpa using hcz
        have HF := fin false (by simp [wfB, ghi0, ghi1, show ¬ (c = 0) by omega])
        clear fin HZ HM
        go_enter Tryd.func31, Tryd.ntmps31
        go_upto_region 1 with fail
        rw [← hw1, ← hB]
        clear hw1 hB
        obtain ⟨b0, b1, b2, b3, b4, b5, b6, b7, b8⟩ := msg_cells B Hb.out (Chg.refl [] w1)
        go_wp2_with fail
        go_ret
        exact ⟨by rw [HF.out]; rfl, Hc.out⟩
      · have dhcz : (c != 0) = false := by simpa using hcz
        have ghcz : c = 0 := by omega
        subst ghcz
        have HF := fin (vmM 3 t) (by simp [wfB, ghi0, ghi1])
        clear fin
        generalize vmM 3 t = b at HF HM
        go_enter Tryd.func31, Tryd.ntmps31
        go_upto_region 1 with fail
        rw [← hw1, ← hB]
        clear hw1 hB
        obtain ⟨b0, b1, b2, b3, b4, b5, b6, b7, b8⟩ := msg_cells B Hb.out (Chg.refl [] w1)
        go_wp2_with fail
        refine (HM.out w1 Hc.out).mono ?_
        rintro e w3 ⟨rfl, hc3⟩
        have Hc3 := Lib.hid (Hc.out.trans hc3)
        clear hc3
        go_wp2_with fail
        go_ret
        exact ⟨by rw [HF.out]; rfl, Hc3.out⟩
set_option maxHeartbeats 16000000 in
theorem wfm4 (i c ek en : Int) (t et : ByteArray) (na ia : Option Addr) (nl nc il ic : Nat) (w : World) (hT : Tb w) (hs : t.size ≤ maxLen) (hl : nl ≤ maxLen ∧ il ≤ maxLen) : Calls Tryd.prog 31 #[.agg #[.int .i64 4, .int .i64 i, .int .i64 c, .string t, .int .i64 ek, .int .i64 en, .string et, .slice na nl nc, .slice ia il ic]] w fun e w' => e = .returned (.bool (wfB 4 i c t ⟨ek, en, et, na, nl, nc, ia, il, ic⟩)) ∧ Chg [] w w' := by
  obtain ⟨w1, hw1⟩ : ∃ x, x = w.alloc (.cells #[.int .i64 4, .int .i64 i, .int .i64 c, .string t, .int .i64 ek, .int .i64 en, .string et, .slice na nl nc, .slice ia il ic] 27) := ⟨_, rfl⟩
  obtain ⟨B, hB⟩ : ∃ x, x = w.heap.size := ⟨_, rfl⟩
  have hc1' : Chg [] w w1 := by rw [hw1]; exact (Chg.refl _ _).alloc _
  have hb1 : w1.heap[B]? = some (.cells #[.int .i64 4, .int .i64 i, .int .i64 c, .string t, .int .i64 ek, .int .i64 en, .string et, .slice na nl nc, .slice ia il ic] 27 (0, 0)) := by rw [hw1, hB]; exact heap_at _ _ _ rfl
  have HM := Lib.hid (fun W (hW : Chg [] w W) => vm4 i c ek en t et na ia nl nc il ic W (hT.new hW) hs)
  have HZ := Lib.hid (fun W => isNull_any ⟨ek, en, et, na, nl, nc, ia, il, ic⟩ hl W)
  unfold Ev.val at HZ
  simp only at HZ
  have Hc := Lib.hid hc1'
  have Hb := Lib.hid hb1
  have fin : ∀ b : Bool, wfB 4 i c t ⟨ek, en, et, na, nl, nc, ia, il, ic⟩ = b → Hid (wfB 4 i c t ⟨ek, en, et, na, nl, nc, ia, il, ic⟩ = b) := fun b h => Lib.hid h
  clear hT hc1' hb1 hs hl
  by_cases hi0 : i < 0
  · have dhi0 : (decide (i < 0)) = true := decide_eq_true hi0
    have HF := fin false (by simp [wfB, show ¬ (0 ≤ i) by omega])
    clear fin HZ HM
    go_enter Tryd.func31, Tryd.ntmps31
    go_upto_region 1 with fail
    rw [← hw1, ← hB]
    clear hw1 hB
    obtain ⟨b0, b1, b2, b3, b4, b5, b6, b7, b8⟩ := msg_cells B Hb.out (Chg.refl [] w1)
    go_wp2_with fail
    go_ret
    exact ⟨by rw [HF.out]; rfl, Hc.out⟩
  · have dhi0 : (decide (i < 0)) = false := decide_eq_false hi0
    have ghi0 : 0 ≤ i := by omega
    by_cases hi1 : i > 2147483647
    · have dhi1 : (decide (i > 2147483647)) = true := decide_eq_true hi1
      have HF := fin false (by simp [wfB, ghi0, show ¬ (i ≤ 2147483647) by omega])
      clear fin HZ HM
      go_enter Tryd.func31, Tryd.ntmps31
      go_upto_region 1 with fail
      rw [← hw1, ← hB]
      clear hw1 hB
      obtain ⟨b0, b1, b2, b3, b4, b5, b6, b7, b8⟩ := msg_cells B Hb.out (Chg.refl [] w1)
      go_wp2_with fail
      go_ret
      exact ⟨by rw [HF.out]; rfl, Hc.out⟩
    · have dhi1 : (decide (i > 2147483647)) = false := decide_eq_false hi1
      have ghi1 : i ≤ 2147483647 := by omega
      by_cases hc0 : c < 1
      · have dhc0 : (decide (c < 1)) = true := decide_eq_true hc0
        have HF := fin false (by simp [wfB, ghi0, ghi1, show ¬ (1 ≤ c) by omega])
        clear fin HZ HM
        go_enter Tryd.func31, Tryd.ntmps31
        go_upto_region 1 with fail
        rw [← hw1, ← hB]
        clear hw1 hB
        obtain ⟨b0, b1, b2, b3, b4, b5, b6, b7, b8⟩ := msg_cells B Hb.out (Chg.refl [] w1)
        go_wp2_with fail
        go_ret
        exact ⟨by rw [HF.out]; rfl, Hc.out⟩
      · have dhc0 : (decide (c < 1)) = false := decide_eq_false hc0
        have ghc0 : 1 ≤ c := by omega
        by_cases hc1 : c > 99
        · have dhc1 : (decide (c > 99)) = true := decide_eq_true hc1
          have HF := fin false (by simp [wfB, ghi0, ghi1, ghc0, show ¬ (c ≤ 99) by omega])
          clear fin HZ HM
          go_enter Tryd.func31, Tryd.ntmps31
          go_upto_region 1 with fail
          rw [← hw1, ← hB]
          clear hw1 hB
          obtain ⟨b0, b1, b2, b3, b4, b5, b6, b7, b8⟩ := msg_cells B Hb.out (Chg.refl [] w1)
          go_wp2_with fail
          go_ret
          exact ⟨by rw [HF.out]; rfl, Hc.out⟩
        · have dhc1 : (decide (c > 99)) = false := decide_eq_false hc1
          have ghc1 : c ≤ 99 := by omega
          cases hz : isN ⟨ek, en, et, na, nl, nc, ia, il, ic⟩
          · skip
            have HF := fin false (by simp [wfB, hz])
            clear fin
            go_enter Tryd.func31, Tryd.ntmps31
            go_upto_region 1 with fail
            rw [← hw1, ← hB]
            clear hw1 hB
            obtain ⟨b0, b1, b2, b3, b4, b5, b6, b7, b8⟩ := msg_cells B Hb.out (Chg.refl [] w1)
            go_wp2_with fail
            refine (HZ.out w1).mono ?_
            rintro e w2 ⟨rfl, hc2'⟩
            rw [hz]
            have Hc2 := Lib.hid (Hc.out.trans hc2')
            clear hc2'
            go_wp2_with fail
            go_ret
            exact ⟨by rw [HF.out]; rfl, Hc2.out⟩
          · skip
            have HF := fin (vmM 4 t) (by simp [wfB, ghi0, ghi1, ghc0, ghc1, hz])
            clear fin
            generalize vmM 4 t = b at HF HM
            go_enter Tryd.func31, Tryd.ntmps31
            go_upto_region 1 with fail
            rw [← hw1, ← hB]
            clear hw1 hB
            obtain ⟨b0, b1, b2, b3, b4, b5, b6, b7, b8⟩ := msg_cells B Hb.out (Chg.refl [] w1)
            go_wp2_with fail
            refine (HZ.out w1).mono ?_
            rintro e w2 ⟨rfl, hc2'⟩
            rw [hz]
            obtain ⟨b0, b1, b2, b3, b4, b5, b6, b7, b8⟩ := msg_cells B Hb.out hc2'
            have Hc2 := Lib.hid (Hc.out.trans hc2')
            clear hc2'
            go_wp2_with fail
            refine (HM.out w2 Hc2.out).mono ?_
            rintro e w3 ⟨rfl, hc3⟩
            have Hc3 := Lib.hid (Hc2.out.trans hc3)
            clear hc3
            go_wp2_with fail
            go_ret
            exact ⟨by rw [HF.out]; rfl, Hc3.out⟩
set_option maxHeartbeats 16000000 in
theorem wfm5 (i c ek en : Int) (t et : ByteArray) (na ia : Option Addr) (nl nc il ic : Nat) (w : World) (hT : Tb w) (hs : t.size ≤ maxLen) (hl : nl ≤ maxLen ∧ il ≤ maxLen) : Calls Tryd.prog 31 #[.agg #[.int .i64 5, .int .i64 i, .int .i64 c, .string t, .int .i64 ek, .int .i64 en, .string et, .slice na nl nc, .slice ia il ic]] w fun e w' => e = .returned (.bool (wfB 5 i c t ⟨ek, en, et, na, nl, nc, ia, il, ic⟩)) ∧ Chg [] w w' := by
  obtain ⟨w1, hw1⟩ : ∃ x, x = w.alloc (.cells #[.int .i64 5, .int .i64 i, .int .i64 c, .string t, .int .i64 ek, .int .i64 en, .string et, .slice na nl nc, .slice ia il ic] 27) := ⟨_, rfl⟩
  obtain ⟨B, hB⟩ : ∃ x, x = w.heap.size := ⟨_, rfl⟩
  have hc1' : Chg [] w w1 := by rw [hw1]; exact (Chg.refl _ _).alloc _
  have hb1 : w1.heap[B]? = some (.cells #[.int .i64 5, .int .i64 i, .int .i64 c, .string t, .int .i64 ek, .int .i64 en, .string et, .slice na nl nc, .slice ia il ic] 27 (0, 0)) := by rw [hw1, hB]; exact heap_at _ _ _ rfl
  have HM := Lib.hid (fun W (hW : Chg [] w W) => vm5 i c ek en t et na ia nl nc il ic W (hT.new hW) hs)
  have HZ := Lib.hid (fun W => isNull_any ⟨ek, en, et, na, nl, nc, ia, il, ic⟩ hl W)
  unfold Ev.val at HZ
  simp only at HZ
  have Hc := Lib.hid hc1'
  have Hb := Lib.hid hb1
  have fin : ∀ b : Bool, wfB 5 i c t ⟨ek, en, et, na, nl, nc, ia, il, ic⟩ = b → Hid (wfB 5 i c t ⟨ek, en, et, na, nl, nc, ia, il, ic⟩ = b) := fun b h => Lib.hid h
  clear hT hc1' hb1 hs hl
  by_cases hi0 : i < 0
  · have dhi0 : (decide (i < 0)) = true := decide_eq_true hi0
    have HF := fin false (by simp [wfB, show ¬ (0 ≤ i) by omega])
    clear fin HZ HM
    go_enter Tryd.func31, Tryd.ntmps31
    go_upto_region 1 with fail
    rw [← hw1, ← hB]
    clear hw1 hB
    obtain ⟨b0, b1, b2, b3, b4, b5, b6, b7, b8⟩ := msg_cells B Hb.out (Chg.refl [] w1)
    go_wp2_with fail
    go_ret
    exact ⟨by rw [HF.out]; rfl, Hc.out⟩
  · have dhi0 : (decide (i < 0)) = false := decide_eq_false hi0
    have ghi0 : 0 ≤ i := by omega
    by_cases hi1 : i > 2147483647
    · have dhi1 : (decide (i > 2147483647)) = true := decide_eq_true hi1
      have HF := fin false (by simp [wfB, ghi0, show ¬ (i ≤ 2147483647) by omega])
      clear fin HZ HM
      go_enter Tryd.func31, Tryd.ntmps31
      go_upto_region 1 with fail
      rw [← hw1, ← hB]
      clear hw1 hB
      obtain ⟨b0, b1, b2, b3, b4, b5, b6, b7, b8⟩ := msg_cells B Hb.out (Chg.refl [] w1)
      go_wp2_with fail
      go_ret
      exact ⟨by rw [HF.out]; rfl, Hc.out⟩
    · have dhi1 : (decide (i > 2147483647)) = false := decide_eq_false hi1
      have ghi1 : i ≤ 2147483647 := by omega
      by_cases hcz : c ≠ 0
      · have dhcz : (c != 0) = true := by simpa using hcz
        have HF := fin false (by simp [wfB, ghi0, ghi1, show ¬ (c = 0) by omega])
        clear fin HZ HM
        go_enter Tryd.func31, Tryd.ntmps31
        go_upto_region 1 with fail
        rw [← hw1, ← hB]
        clear hw1 hB
        obtain ⟨b0, b1, b2, b3, b4, b5, b6, b7, b8⟩ := msg_cells B Hb.out (Chg.refl [] w1)
        go_wp2_with fail
        go_ret
        exact ⟨by rw [HF.out]; rfl, Hc.out⟩
      · have dhcz : (c != 0) = false := by simpa using hcz
        have ghcz : c = 0 := by omega
        subst ghcz
        cases hz : isN ⟨ek, en, et, na, nl, nc, ia, il, ic⟩
        · skip
          have HF := fin false (by simp [wfB, hz])
          clear fin
          go_enter Tryd.func31, Tryd.ntmps31
          go_upto_region 1 with fail
          rw [← hw1, ← hB]
          clear hw1 hB
          obtain ⟨b0, b1, b2, b3, b4, b5, b6, b7, b8⟩ := msg_cells B Hb.out (Chg.refl [] w1)
          go_wp2_with fail
          refine (HZ.out w1).mono ?_
          rintro e w2 ⟨rfl, hc2'⟩
          rw [hz]
          have Hc2 := Lib.hid (Hc.out.trans hc2')
          clear hc2'
          go_wp2_with fail
          go_ret
          exact ⟨by rw [HF.out]; rfl, Hc2.out⟩
        · skip
          have HF := fin (vmM 5 t) (by simp [wfB, ghi0, ghi1, hz])
          clear fin
          generalize vmM 5 t = b at HF HM
          go_enter Tryd.func31, Tryd.ntmps31
          go_upto_region 1 with fail
          rw [← hw1, ← hB]
          clear hw1 hB
          obtain ⟨b0, b1, b2, b3, b4, b5, b6, b7, b8⟩ := msg_cells B Hb.out (Chg.refl [] w1)
          go_wp2_with fail
          refine (HZ.out w1).mono ?_
          rintro e w2 ⟨rfl, hc2'⟩
          rw [hz]
          obtain ⟨b0, b1, b2, b3, b4, b5, b6, b7, b8⟩ := msg_cells B Hb.out hc2'
          have Hc2 := Lib.hid (Hc.out.trans hc2')
          clear hc2'
          go_wp2_with fail
          refine (HM.out w2 Hc2.out).mono ?_
          rintro e w3 ⟨rfl, hc3⟩
          have Hc3 := Lib.hid (Hc2.out.trans hc3)
          clear hc3
          go_wp2_with fail
          go_ret
          exact ⟨by rw [HF.out]; rfl, Hc3.out⟩
theorem wellFormed_b (k i c : Int) (t : ByteArray) (e : Ev) (w : World) (hk : 1 ≤ k ∧ k ≤ 5) (hT : Tb w) (hs : t.size ≤ maxLen) (hl : e.nl ≤ maxLen ∧ e.il ≤ maxLen) : Calls Tryd.prog 31 #[mB k i c t e] w fun e' w' => e' = .returned (.bool (wfB k i c t e)) ∧ Chg [] w w' := by
  obtain ⟨ek, en, et, na, nl, nc, ia, il, ic⟩ := e
  have : k = 1 ∨ k = 2 ∨ k = 3 ∨ k = 4 ∨ k = 5 := by omega
  rcases this with rfl | rfl | rfl | rfl | rfl
  · exact wfm1 i c ek en t et na ia nl nc il ic w hT hs hl
  · exact wfm2 i c ek en t et na ia nl nc il ic w hT hs hl
  · exact wfm3 i c ek en t et na ia nl nc il ic w hT hs hl
  · exact wfm4 i c ek en t et na ia nl nc il ic w hT hs hl
  · exact wfm5 i c ek en t et na ia nl nc il ic w hT hs hl
end Go.Proofs.YtiklgipcgdgkoaaDoor.Jv
