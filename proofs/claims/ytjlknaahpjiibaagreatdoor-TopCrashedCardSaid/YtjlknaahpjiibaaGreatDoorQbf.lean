/- Part of the proof of topCrashedLaw_holds. -/
import Derived.Test.YtjlknaahpjiibaaGreatDoorQbe
namespace Go.Proofs.YtjlknaahpjiibaaGreatDoor.Jv
open List (getElem_toArray getElem_cons_zero getElem_cons_succ setIfInBounds_toArray set_cons_zero set_cons_succ)
open Go.RowKit Go.ChangeMaps Go.MapKept
set_option linter.unusedVariables false
set_option linter.unusedSimpArgs false
def isN (e : Ev) : Bool := decide (e.k = 0) && (decide (e.n = 0) && (decide (e.t = ⟨#[]⟩) && decide (e.nl + e.il = 0)))
set_option maxHeartbeats 4000000 in
theorem isNull_any (e : Ev) (hl : e.nl ≤ maxLen ∧ e.il ≤ maxLen) (w : World) : Calls Tryz.prog 86 #[e.val] w fun e' w' => e' = .returned (.bool (isN e)) ∧ Chg [] w w' := by
 obtain ⟨k, n, t, na, nl, nc, ia, il, ic⟩ := e
 unfold Ev.val
 unfold maxLen at hl
 simp only at hl ⊢
 have Hc := Lib.hid ((Chg.refl [] w).alloc (.cells #[.int .i64 k, .int .i64 n, .string t, .slice na nl nc, .slice ia il ic] 59))
 have fin : ∀ b : Bool, isN ⟨k, n, t, na, nl, nc, ia, il, ic⟩ = b → Hid (isN ⟨k, n, t, na, nl, nc, ia, il, ic⟩ = b) := fun b h => Lib.hid h
 by_cases hk : k = 0
 · subst hk
   by_cases hn : n = 0
   · subst hn
     by_cases ht : t = ⟨#[]⟩
     · subst ht
       by_cases hs : nl + il = 0
       · obtain rfl : nl = 0 := by omega
         obtain rfl : il = 0 := by omega
         have HF := fin true (by simp [isN])
         clear fin hl hs
         go_enter Tryz.func86, Tryz.ntmps86
         go_wp2_with fail
         go_ret
         exact ⟨by rw [HF.out]; rfl, Hc.out⟩
       · have HF := fin false (by simp [isN]; omega)
         obtain ⟨z, hz⟩ : ∃ z, IntKind.i64.wrap ((nl : Int) + (il : Int)) = z := ⟨_, rfl⟩
         have hz0 : (z == 0) = false := by
          have : z ≠ 0 := by
           rw [← hz, IntKind.wrap_i64]
           omega
          simpa using this
         clear fin hl hs
         go_enter Tryz.func86, Tryz.ntmps86
         go_wp2_with fail
         go_ret
         exact ⟨by rw [HF.out]; rfl, Hc.out⟩
     · have HF := fin false (by simp [isN, ht])
       have h0 : t.toList.isEmpty = false := by
        cases h : t.toList with
        | nil => exact absurd (by have := beqS t ⟨#[]⟩; rw [h] at this; simpa using this) ht
        | cons x y => rfl
       clear fin hl ht
       go_enter Tryz.func86, Tryz.ntmps86
       go_wp2_with fail
       go_ret
       exact ⟨by rw [HF.out]; rfl, Hc.out⟩
   · have HF := fin false (by simp [isN, hn])
     have h0 : (n == 0) = false := by simpa using hn
     clear fin hl hn
     go_enter Tryz.func86, Tryz.ntmps86
     go_wp2_with fail
     go_ret
     exact ⟨by rw [HF.out]; rfl, Hc.out⟩
 · have HF := fin false (by simp [isN, hk])
   have h0 : (k == 0) = false := by simpa using hk
   clear fin hl hk
   go_enter Tryz.func86, Tryz.ntmps86
   go_wp2_with fail
   go_ret
   exact ⟨by rw [HF.out]; rfl, Hc.out⟩
def vtx (m : Nat) (s : ByteArray) : Bool := decide (m ≤ s.size) && (decide (s.size ≤ 60) && u8 s)
set_option maxHeartbeats 4000000 in
theorem validText_b (s : ByteArray) (m : Nat) (w : World) (hT : Tb w) (hs : s.size ≤ maxLen) : Calls Tryz.prog 163 #[.string s, .int .i64 (m : Nat)] w fun e w' => e = .returned (.bool (vtx m s)) ∧ Chg [] w w' := by
 have H := Lib.hid (valid_str s w hs hT)
 have fin : ∀ b : Bool, vtx m s = b → Hid (vtx m s = b) := fun b h => Lib.hid h
 by_cases h0 : m ≤ s.size
 · by_cases h1 : s.size ≤ 60
   · have HF := fin (u8 s) (by simp [vtx, h0, h1])
     have d0 : decide ((m : Int) ≤ s.size) = true := decide_eq_true (by omega)
     have d1 : decide ((s.size : Int) ≤ 60) = true := decide_eq_true (by omega)
     generalize u8 s = b at H HF
     clear hT fin hs
     go_enter Tryz.func163, Tryz.ntmps163
     go_wp2_with fail
     refine H.out.mono ?_
     rintro e w1 ⟨rfl, hc⟩
     have Hc := Lib.hid hc
     clear hc
     go_wp2_with fail
     all_goals
      go_ret
      exact ⟨by rw [HF.out]; rfl, Hc.out⟩
   · have HF := fin false (by simp [vtx, h1])
     have d0 : decide ((m : Int) ≤ s.size) = true := decide_eq_true (by omega)
     have d1 : decide ((s.size : Int) ≤ 60) = false := decide_eq_false (by omega)
     clear hT fin hs H
     go_enter Tryz.func163, Tryz.ntmps163
     go_wp2_with fail
     all_goals
      go_ret
      exact ⟨by rw [HF.out]; rfl, Chg.refl _ _⟩
 · have HF := fin false (by simp [vtx, h0])
   have d0 : decide ((m : Int) ≤ s.size) = false := decide_eq_false (by omega)
   clear hT fin hs H
   go_enter Tryz.func163, Tryz.ntmps163
   go_wp2_with fail
   all_goals
    go_ret
    exact ⟨by rw [HF.out]; rfl, Chg.refl _ _⟩
def mB (k i c : Int) (t : ByteArray) (e : Ev) : Value := .agg #[.int .i64 k, .int .i64 i, .int .i64 c, .string t, .int .i64 e.k, .int .i64 e.n, .string e.t, .slice e.na e.nl e.nc, .slice e.ia e.il e.ic]
def cancelT : ByteArray := ⟨#[36, 47, 99, 97, 110, 99, 101, 108]⟩
def vmM (k : Int) (t : ByteArray) : Bool := if k = 1 then vtx 1 t else if k = 2 then (vtx 1 t && decide (t ≠ cancelT)) else if k = 4 then vtx 0 t else decide (t = ⟨#[]⟩)
theorem ne_empty {t : ByteArray} (ht : t ≠ ⟨#[]⟩) : t.toList.isEmpty = false := by
 cases h : t.toList with
 | nil => exact absurd (by have := beqS t ⟨#[]⟩; rw [h] at this; simpa using this) ht
 | cons x y => rfl
set_option maxHeartbeats 4000000 in
theorem vm1 (i c ek en : Int) (t et : ByteArray) (na ia : Option Addr) (nl nc il ic : Nat) (w : World) (hT : Tb w) (hs : t.size ≤ maxLen) : Calls Tryz.prog 119 #[.agg #[.int .i64 1, .int .i64 i, .int .i64 c, .string t, .int .i64 ek, .int .i64 en, .string et, .slice na nl nc, .slice ia il ic]] w fun e w' => e = .returned (.bool (vmM 1 t)) ∧ Chg [] w w' := by
 have Hc := Lib.hid ((Chg.refl [] w).alloc (.cells #[.int .i64 1, .int .i64 i, .int .i64 c, .string t, .int .i64 ek, .int .i64 en, .string et, .slice na nl nc, .slice ia il ic] 61))
 have H := Lib.hid (fun W (hc : Chg [] w W) => validText_b t 1 W (hT.new hc) hs)
 have HF : Hid (vmM 1 t = vtx 1 t) := Lib.hid rfl
 generalize vtx 1 t = b at H HF
 clear hT hs
 go_enter Tryz.func119, Tryz.ntmps119
 go_wp2_with fail
 refine (H.out _ Hc.out).mono ?_
 rintro e w1 ⟨rfl, hc⟩
 have Hc1 := Lib.hid (Hc.out.trans hc)
 clear hc
 go_wp2_with fail
 go_ret
 exact ⟨by rw [HF.out]; rfl, Hc1.out⟩
set_option maxHeartbeats 4000000 in
theorem vm2 (i c ek en : Int) (t et : ByteArray) (na ia : Option Addr) (nl nc il ic : Nat) (w : World) (hT : Tb w) (hs : t.size ≤ maxLen) : Calls Tryz.prog 119 #[.agg #[.int .i64 2, .int .i64 i, .int .i64 c, .string t, .int .i64 ek, .int .i64 en, .string et, .slice na nl nc, .slice ia il ic]] w fun e w' => e = .returned (.bool (vmM 2 t)) ∧ Chg [] w w' := by
 have Hc := Lib.hid ((Chg.refl [] w).alloc (.cells #[.int .i64 2, .int .i64 i, .int .i64 c, .string t, .int .i64 ek, .int .i64 en, .string et, .slice na nl nc, .slice ia il ic] 61))
 have H := Lib.hid (fun W (hc : Chg [] w W) => validText_b t 1 W (hT.new hc) hs)
 have HF : Hid (vmM 2 t = (vtx 1 t && decide (t ≠ cancelT))) := Lib.hid rfl
 have hbq : (t.toList == cancelT.toList) = decide (t = cancelT) := beqS t cancelT
 rw [show cancelT.toList = ([36, 47, 99, 97, 110, 99, 101, 108] : List UInt8) by rw [ByteArray.toList_eq]; rfl] at hbq
 have hbn : (t.toList != ([36, 47, 99, 97, 110, 99, 101, 108] : List UInt8)) = !decide (t = cancelT) := by unfold bne; rw [hbq]
 rw [show decide (t ≠ cancelT) = !decide (t = cancelT) by simp] at HF
 generalize decide (t = cancelT) = d at HF hbq hbn
 generalize vtx 1 t = b at H HF
 have hm0 := heap_at w (.cells #[.int .i64 2, .int .i64 i, .int .i64 c, .string t, .int .i64 ek, .int .i64 en, .string et, .slice na nl nc, .slice ia il ic] 61) w.heap.size rfl
 have Hm := Lib.hid (And.intro (show (w.alloc (.cells #[.int .i64 2, .int .i64 i, .int .i64 c, .string t, .int .i64 ek, .int .i64 en, .string et, .slice na nl nc, .slice ia il ic] 61)).cell? ⟨w.heap.size, 3, none⟩ = some (.string t) from cell_of_heap hm0 rfl) (lt_of_obj hm0))
 clear hT hs hm0
 cases b
 all_goals
  go_enter Tryz.func119, Tryz.ntmps119
  go_wp2_with fail
  refine (H.out _ Hc.out).mono ?_
  rintro e w1 ⟨rfl, hc⟩
  have Hc1 := Lib.hid (Hc.out.trans hc)
  have q3 := (hc.cell (p := ⟨w.heap.size, 3, none⟩) Hm.out.2 (by simp)).trans Hm.out.1
  clear hc
  go_wp2_with fail
  all_goals
   go_ret
   exact ⟨by rw [HF.out]; rfl, Hc1.out⟩
set_option maxHeartbeats 4000000 in
theorem vm3 (i c ek en : Int) (t et : ByteArray) (na ia : Option Addr) (nl nc il ic : Nat) (w : World) (hT : Tb w) (hs : t.size ≤ maxLen) : Calls Tryz.prog 119 #[.agg #[.int .i64 3, .int .i64 i, .int .i64 c, .string t, .int .i64 ek, .int .i64 en, .string et, .slice na nl nc, .slice ia il ic]] w fun e w' => e = .returned (.bool (vmM 3 t)) ∧ Chg [] w w' := by
 have Hc := Lib.hid ((Chg.refl [] w).alloc (.cells #[.int .i64 3, .int .i64 i, .int .i64 c, .string t, .int .i64 ek, .int .i64 en, .string et, .slice na nl nc, .slice ia il ic] 61))
 have HF : Hid (vmM 3 t = decide (t = ⟨#[]⟩)) := Lib.hid rfl
 clear hT hs
 by_cases ht : t = ⟨#[]⟩
 · subst ht
   go_enter Tryz.func119, Tryz.ntmps119
   go_wp2_with fail
   go_ret
   exact ⟨by rw [HF.out]; rfl, Hc.out⟩
 · have h0 := ne_empty ht
   rw [decide_eq_false ht] at HF
   clear ht
   go_enter Tryz.func119, Tryz.ntmps119
   go_wp2_with fail
   go_ret
   exact ⟨by rw [HF.out]; rfl, Hc.out⟩
set_option maxHeartbeats 4000000 in
theorem vm4 (i c ek en : Int) (t et : ByteArray) (na ia : Option Addr) (nl nc il ic : Nat) (w : World) (hT : Tb w) (hs : t.size ≤ maxLen) : Calls Tryz.prog 119 #[.agg #[.int .i64 4, .int .i64 i, .int .i64 c, .string t, .int .i64 ek, .int .i64 en, .string et, .slice na nl nc, .slice ia il ic]] w fun e w' => e = .returned (.bool (vmM 4 t)) ∧ Chg [] w w' := by
 have Hc := Lib.hid ((Chg.refl [] w).alloc (.cells #[.int .i64 4, .int .i64 i, .int .i64 c, .string t, .int .i64 ek, .int .i64 en, .string et, .slice na nl nc, .slice ia il ic] 61))
 have H := Lib.hid (fun W (hc : Chg [] w W) => validText_b t 0 W (hT.new hc) hs)
 have HF : Hid (vmM 4 t = vtx 0 t) := Lib.hid rfl
 generalize vtx 0 t = b at H HF
 clear hT hs
 go_enter Tryz.func119, Tryz.ntmps119
 go_wp2_with fail
 refine (H.out _ Hc.out).mono ?_
 rintro e w1 ⟨rfl, hc⟩
 have Hc1 := Lib.hid (Hc.out.trans hc)
 clear hc
 go_wp2_with fail
 go_ret
 exact ⟨by rw [HF.out]; rfl, Hc1.out⟩
set_option maxHeartbeats 4000000 in
theorem vm5 (i c ek en : Int) (t et : ByteArray) (na ia : Option Addr) (nl nc il ic : Nat) (w : World) (hT : Tb w) (hs : t.size ≤ maxLen) : Calls Tryz.prog 119 #[.agg #[.int .i64 5, .int .i64 i, .int .i64 c, .string t, .int .i64 ek, .int .i64 en, .string et, .slice na nl nc, .slice ia il ic]] w fun e w' => e = .returned (.bool (vmM 5 t)) ∧ Chg [] w w' := by
 have Hc := Lib.hid ((Chg.refl [] w).alloc (.cells #[.int .i64 5, .int .i64 i, .int .i64 c, .string t, .int .i64 ek, .int .i64 en, .string et, .slice na nl nc, .slice ia il ic] 61))
 have HF : Hid (vmM 5 t = decide (t = ⟨#[]⟩)) := Lib.hid rfl
 clear hT hs
 by_cases ht : t = ⟨#[]⟩
 · subst ht
   go_enter Tryz.func119, Tryz.ntmps119
   go_wp2_with fail
   go_ret
   exact ⟨by rw [HF.out]; rfl, Hc.out⟩
 · have h0 := ne_empty ht
   rw [decide_eq_false ht] at HF
   clear ht
   go_enter Tryz.func119, Tryz.ntmps119
   go_wp2_with fail
   go_ret
   exact ⟨by rw [HF.out]; rfl, Hc.out⟩
def wfB (k i c : Int) (t : ByteArray) (e : Ev) : Bool := (if k = 2 then decide (i = 0) else decide (0 ≤ i) && decide (i ≤ 2147483647)) && ((if k = 4 then decide (1 ≤ c) && decide (c ≤ 99) else decide (c = 0)) && ((if k = 4 ∨ k = 5 then isN e else true) && vmM k t))
set_option maxHeartbeats 16000000 in
theorem wfm1 (i c ek en : Int) (t et : ByteArray) (na ia : Option Addr) (nl nc il ic : Nat) (w : World) (hT : Tb w) (hs : t.size ≤ maxLen) (hl : nl ≤ maxLen ∧ il ≤ maxLen) : Calls Tryz.prog 73 #[.agg #[.int .i64 1, .int .i64 i, .int .i64 c, .string t, .int .i64 ek, .int .i64 en, .string et, .slice na nl nc, .slice ia il ic]] w fun e w' => e = .returned (.bool (wfB 1 i c t ⟨ek, en, et, na, nl, nc, ia, il, ic⟩)) ∧ Chg [] w w' := by
 obtain ⟨w1, hw1⟩ : ∃ x, x = w.alloc (.cells #[.int .i64 1, .int .i64 i, .int .i64 c, .string t, .int .i64 ek, .int .i64 en, .string et, .slice na nl nc, .slice ia il ic] 61) := ⟨_, rfl⟩
 obtain ⟨B, hB⟩ : ∃ x, x = w.heap.size := ⟨_, rfl⟩
 have hc1' : Chg [] w w1 := by rw [hw1]; exact (Chg.refl _ _).alloc _
 have hb1 : w1.heap[B]? = some (.cells #[.int .i64 1, .int .i64 i, .int .i64 c, .string t, .int .i64 ek, .int .i64 en, .string et, .slice na nl nc, .slice ia il ic] 61 (0, 0)) := by rw [hw1, hB]; exact heap_at _ _ _ rfl
 have HM := Lib.hid (fun W (hW : Chg [] w W) => vm1 i c ek en t et na ia nl nc il ic W (hT.new hW) hs)
 have HZ := Lib.hid (fun W => isNull_any ⟨ek, en, et, na, nl, nc, ia, il, ic⟩ hl W)
 unfold Ev.val at HZ
 simp only at HZ
 have Hc := Lib.hid hc1'
 have Hb := Lib.hid hb1
 have fin : ∀ b : Bool, wfB 1 i c t ⟨ek, en, et, na, nl, nc, ia, il, ic⟩ = b → Hid (wfB 1 i c t ⟨ek, en, et, na, nl, nc, ia, il, ic⟩ = b) := fun b h => Lib.hid h
 clear hT hc1' hb1 hs hl
 by_cases hi0 : i < 0
 · have dhi0 : (decide (i < 0)) = true := decide_eq_true hi0
   have HF := fin false (by simp [wfB, show ¬ (0 ≤ i) by omega])
   clear fin HZ HM
   go_enter Tryz.func73, Tryz.ntmps73
   go_upto_region 1 with fail
   rw [← hw1, ← hB]
   clear hw1 hB
   obtain ⟨b0, b1, b2, b3, b4, b5, b6, b7, b8⟩ := msg_cells B Hb.out (Chg.refl [] w1)
   go_wp2_with fail
   go_ret
   exact ⟨by rw [HF.out]; rfl, Hc.out⟩
 · have dhi0 : (decide (i < 0)) = false := decide_eq_false hi0
   have ghi0 : 0 ≤ i := by omega
   by_cases hi1 : i > 2147483647
   · have dhi1 : (decide (i > 2147483647)) = true := decide_eq_true hi1
     have HF := fin false (by simp [wfB, ghi0, show ¬ (i ≤ 2147483647) by omega])
     clear fin HZ HM
     go_enter Tryz.func73, Tryz.ntmps73
     go_upto_region 1 with fail
     rw [← hw1, ← hB]
     clear hw1 hB
     obtain ⟨b0, b1, b2, b3, b4, b5, b6, b7, b8⟩ := msg_cells B Hb.out (Chg.refl [] w1)
     go_wp2_with fail
     go_ret
     exact ⟨by rw [HF.out]; rfl, Hc.out⟩
   · have dhi1 : (decide (i > 2147483647)) = false := decide_eq_false hi1
     have ghi1 : i ≤ 2147483647 := by omega
     by_cases hcz : c ≠ 0
     · have dhcz : (c != 0) = true := by simpa using hcz
       have HF := fin false (by simp [wfB, ghi0, ghi1, show ¬ (c = 0) by omega])
       clear fin HZ HM
       go_enter Tryz.func73, Tryz.ntmps73
       go_upto_region 1 with fail
       rw [← hw1, ← hB]
       clear hw1 hB
       obtain ⟨b0, b1, b2, b3, b4, b5, b6, b7, b8⟩ := msg_cells B Hb.out (Chg.refl [] w1)
       go_wp2_with fail
       go_ret
       exact ⟨by rw [HF.out]; rfl, Hc.out⟩
     · have dhcz : (c != 0) = false := by simpa using hcz
       have ghcz : c = 0 := by omega
       subst ghcz
       have HF := fin (vmM 1 t) (by simp [wfB, ghi0, ghi1])
       clear fin
       generalize vmM 1 t = b at HF HM
       go_enter Tryz.func73, Tryz.ntmps73
       go_upto_region 1 with fail
       rw [← hw1, ← hB]
       clear hw1 hB
       obtain ⟨b0, b1, b2, b3, b4, b5, b6, b7, b8⟩ := msg_cells B Hb.out (Chg.refl [] w1)
       go_wp2_with fail
       refine (HM.out w1 Hc.out).mono ?_
       rintro e w3 ⟨rfl, hc3⟩
       have Hc3 := Lib.hid (Hc.out.trans hc3)
       clear hc3
       go_wp2_with fail
       go_ret
       exact ⟨by rw [HF.out]; rfl, Hc3.out⟩
set_option maxHeartbeats 16000000 in
theorem wfm2 (i c ek en : Int) (t et : ByteArray) (na ia : Option Addr) (nl nc il ic : Nat) (w : World) (hT : Tb w) (hs : t.size ≤ maxLen) (hl : nl ≤ maxLen ∧ il ≤ maxLen) : Calls Tryz.prog 73 #[.agg #[.int .i64 2, .int .i64 i, .int .i64 c, .string t, .int .i64 ek, .int .i64 en, .string et, .slice na nl nc, .slice ia il ic]] w fun e w' => e = .returned (.bool (wfB 2 i c t ⟨ek, en, et, na, nl, nc, ia, il, ic⟩)) ∧ Chg [] w w' := by
 obtain ⟨w1, hw1⟩ : ∃ x, x = w.alloc (.cells #[.int .i64 2, .int .i64 i, .int .i64 c, .string t, .int .i64 ek, .int .i64 en, .string et, .slice na nl nc, .slice ia il ic] 61) := ⟨_, rfl⟩
 obtain ⟨B, hB⟩ : ∃ x, x = w.heap.size := ⟨_, rfl⟩
 have hc1' : Chg [] w w1 := by rw [hw1]; exact (Chg.refl _ _).alloc _
 have hb1 : w1.heap[B]? = some (.cells #[.int .i64 2, .int .i64 i, .int .i64 c, .string t, .int .i64 ek, .int .i64 en, .string et, .slice na nl nc, .slice ia il ic] 61 (0, 0)) := by rw [hw1, hB]; exact heap_at _ _ _ rfl
 have HM := Lib.hid (fun W (hW : Chg [] w W) => vm2 i c ek en t et na ia nl nc il ic W (hT.new hW) hs)
 have HZ := Lib.hid (fun W => isNull_any ⟨ek, en, et, na, nl, nc, ia, il, ic⟩ hl W)
 unfold Ev.val at HZ
 simp only at HZ
 have Hc := Lib.hid hc1'
 have Hb := Lib.hid hb1
 have fin : ∀ b : Bool, wfB 2 i c t ⟨ek, en, et, na, nl, nc, ia, il, ic⟩ = b → Hid (wfB 2 i c t ⟨ek, en, et, na, nl, nc, ia, il, ic⟩ = b) := fun b h => Lib.hid h
 clear hT hc1' hb1 hs hl
 by_cases hiz : i ≠ 0
 · have dhiz : (i != 0) = true := by simpa using hiz
   have HF := fin false (by simp [wfB, show ¬ (i = 0) by omega])
   clear fin HZ HM
   go_enter Tryz.func73, Tryz.ntmps73
   go_upto_region 1 with fail
   rw [← hw1, ← hB]
   clear hw1 hB
   obtain ⟨b0, b1, b2, b3, b4, b5, b6, b7, b8⟩ := msg_cells B Hb.out (Chg.refl [] w1)
   go_wp2_with fail
   go_ret
   exact ⟨by rw [HF.out]; rfl, Hc.out⟩
 · have dhiz : (i != 0) = false := by simpa using hiz
   have ghiz : i = 0 := by omega
   subst ghiz
   by_cases hcz : c ≠ 0
   · have dhcz : (c != 0) = true := by simpa using hcz
     have HF := fin false (by simp [wfB, show ¬ (c = 0) by omega])
     clear fin HZ HM
     go_enter Tryz.func73, Tryz.ntmps73
     go_upto_region 1 with fail
     rw [← hw1, ← hB]
     clear hw1 hB
     obtain ⟨b0, b1, b2, b3, b4, b5, b6, b7, b8⟩ := msg_cells B Hb.out (Chg.refl [] w1)
     go_wp2_with fail
     go_ret
     exact ⟨by rw [HF.out]; rfl, Hc.out⟩
   · have dhcz : (c != 0) = false := by simpa using hcz
     have ghcz : c = 0 := by omega
     subst ghcz
     have HF := fin (vmM 2 t) (by simp [wfB, vmM])
     clear fin
     generalize vmM 2 t = b at HF HM
     go_enter Tryz.func73, Tryz.ntmps73
     go_upto_region 1 with fail
     rw [← hw1, ← hB]
     clear hw1 hB
     obtain ⟨b0, b1, b2, b3, b4, b5, b6, b7, b8⟩ := msg_cells B Hb.out (Chg.refl [] w1)
     go_wp2_with fail
     refine (HM.out w1 Hc.out).mono ?_
     rintro e w3 ⟨rfl, hc3⟩
     have Hc3 := Lib.hid (Hc.out.trans hc3)
     clear hc3
     go_wp2_with fail
     go_ret
     exact ⟨by rw [HF.out]; rfl, Hc3.out⟩
set_option maxHeartbeats 16000000 in
theorem wfm3 (i c ek en : Int) (t et : ByteArray) (na ia : Option Addr) (nl nc il ic : Nat) (w : World) (hT : Tb w) (hs : t.size ≤ maxLen) (hl : nl ≤ maxLen ∧ il ≤ maxLen) : Calls Tryz.prog 73 #[.agg #[.int .i64 3, .int .i64 i, .int .i64 c, .string t, .int .i64 ek, .int .i64 en, .string et, .slice na nl nc, .slice ia il ic]] w fun e w' => e = .returned (.bool (wfB 3 i c t ⟨ek, en, et, na, nl, nc, ia, il, ic⟩)) ∧ Chg [] w w' := by
 obtain ⟨w1, hw1⟩ : ∃ x, x = w.alloc (.cells #[.int .i64 3, .int .i64 i, .int .i64 c, .string t, .int .i64 ek, .int .i64 en, .string et, .slice na nl nc, .slice ia il ic] 61) := ⟨_, rfl⟩
 obtain ⟨B, hB⟩ : ∃ x, x = w.heap.size := ⟨_, rfl⟩
 have hc1' : Chg [] w w1 := by rw [hw1]; exact (Chg.refl _ _).alloc _
 have hb1 : w1.heap[B]? = some (.cells #[.int .i64 3, .int .i64 i, .int .i64 c, .string t, .int .i64 ek, .int .i64 en, .string et, .slice na nl nc, .slice ia il ic] 61 (0, 0)) := by rw [hw1, hB]; exact heap_at _ _ _ rfl
 have HM := Lib.hid (fun W (hW : Chg [] w W) => vm3 i c ek en t et na ia nl nc il ic W (hT.new hW) hs)
 have HZ := Lib.hid (fun W => isNull_any ⟨ek, en, et, na, nl, nc, ia, il, ic⟩ hl W)
 unfold Ev.val at HZ
 simp only at HZ
 have Hc := Lib.hid hc1'
 have Hb := Lib.hid hb1
 have fin : ∀ b : Bool, wfB 3 i c t ⟨ek, en, et, na, nl, nc, ia, il, ic⟩ = b → Hid (wfB 3 i c t ⟨ek, en, et, na, nl, nc, ia, il, ic⟩ = b) := fun b h => Lib.hid h
 clear hT hc1' hb1 hs hl
 by_cases hi0 : i < 0
 · have dhi0 : (decide (i < 0)) = true := decide_eq_true hi0
   have HF := fin false (by simp [wfB, show ¬ (0 ≤ i) by omega])
   clear fin HZ HM
   go_enter Tryz.func73, Tryz.ntmps73
   go_upto_region 1 with fail
   rw [← hw1, ← hB]
   clear hw1 hB
   obtain ⟨b0, b1, b2, b3, b4, b5, b6, b7, b8⟩ := msg_cells B Hb.out (Chg.refl [] w1)
   go_wp2_with fail
   go_ret
   exact ⟨by rw [HF.out]; rfl, Hc.out⟩
 · have dhi0 : (decide (i < 0)) = false := decide_eq_false hi0
   have ghi0 : 0 ≤ i := by omega
   by_cases hi1 : i > 2147483647
   · have dhi1 : (decide (i > 2147483647)) = true := decide_eq_true hi1
     have HF := fin false (by simp [wfB, ghi0, show ¬ (i ≤ 2147483647) by omega])
     clear fin HZ HM
     go_enter Tryz.func73, Tryz.ntmps73
     go_upto_region 1 with fail
     rw [← hw1, ← hB]
     clear hw1 hB
     obtain ⟨b0, b1, b2, b3, b4, b5, b6, b7, b8⟩ := msg_cells B Hb.out (Chg.refl [] w1)
     go_wp2_with fail
     go_ret
     exact ⟨by rw [HF.out]; rfl, Hc.out⟩
   · have dhi1 : (decide (i > 2147483647)) = false := decide_eq_false hi1
     have ghi1 : i ≤ 2147483647 := by omega
     by_cases hcz : c ≠ 0
     · have dhcz : (c != 0) = true := by simpa using hcz
       have HF := fin false (by simp [wfB, ghi0, ghi1, show ¬ (c = 0) by omega])
       clear fin HZ HM
       go_enter Tryz.func73, Tryz.ntmps73
       go_upto_region 1 with fail
       rw [← hw1, ← hB]
       clear hw1 hB
       obtain ⟨b0, b1, b2, b3, b4, b5, b6, b7, b8⟩ := msg_cells B Hb.out (Chg.refl [] w1)
       go_wp2_with fail
       go_ret
       exact ⟨by rw [HF.out]; rfl, Hc.out⟩
     · have dhcz : (c != 0) = false := by simpa using hcz
       have ghcz : c = 0 := by omega
       subst ghcz
       have HF := fin (vmM 3 t) (by simp [wfB, ghi0, ghi1])
       clear fin
       generalize vmM 3 t = b at HF HM
       go_enter Tryz.func73, Tryz.ntmps73
       go_upto_region 1 with fail
       rw [← hw1, ← hB]
       clear hw1 hB
       obtain ⟨b0, b1, b2, b3, b4, b5, b6, b7, b8⟩ := msg_cells B Hb.out (Chg.refl [] w1)
       go_wp2_with fail
       refine (HM.out w1 Hc.out).mono ?_
       rintro e w3 ⟨rfl, hc3⟩
       have Hc3 := Lib.hid (Hc.out.trans hc3)
       clear hc3
       go_wp2_with fail
       go_ret
       exact ⟨by rw [HF.out]; rfl, Hc3.out⟩
set_option maxHeartbeats 16000000 in
theorem wfm4 (i c ek en : Int) (t et : ByteArray) (na ia : Option Addr) (nl nc il ic : Nat) (w : World) (hT : Tb w) (hs : t.size ≤ maxLen) (hl : nl ≤ maxLen ∧ il ≤ maxLen) : Calls Tryz.prog 73 #[.agg #[.int .i64 4, .int .i64 i, .int .i64 c, .string t, .int .i64 ek, .int .i64 en, .string et, .slice na nl nc, .slice ia il ic]] w fun e w' => e = .returned (.bool (wfB 4 i c t ⟨ek, en, et, na, nl, nc, ia, il, ic⟩)) ∧ Chg [] w w' := by
 obtain ⟨w1, hw1⟩ : ∃ x, x = w.alloc (.cells #[.int .i64 4, .int .i64 i, .int .i64 c, .string t, .int .i64 ek, .int .i64 en, .string et, .slice na nl nc, .slice ia il ic] 61) := ⟨_, rfl⟩
 obtain ⟨B, hB⟩ : ∃ x, x = w.heap.size := ⟨_, rfl⟩
 have hc1' : Chg [] w w1 := by rw [hw1]; exact (Chg.refl _ _).alloc _
 have hb1 : w1.heap[B]? = some (.cells #[.int .i64 4, .int .i64 i, .int .i64 c, .string t, .int .i64 ek, .int .i64 en, .string et, .slice na nl nc, .slice ia il ic] 61 (0, 0)) := by rw [hw1, hB]; exact heap_at _ _ _ rfl
 have HM := Lib.hid (fun W (hW : Chg [] w W) => vm4 i c ek en t et na ia nl nc il ic W (hT.new hW) hs)
 have HZ := Lib.hid (fun W => isNull_any ⟨ek, en, et, na, nl, nc, ia, il, ic⟩ hl W)
 unfold Ev.val at HZ
 simp only at HZ
 have Hc := Lib.hid hc1'
 have Hb := Lib.hid hb1
 have fin : ∀ b : Bool, wfB 4 i c t ⟨ek, en, et, na, nl, nc, ia, il, ic⟩ = b → Hid (wfB 4 i c t ⟨ek, en, et, na, nl, nc, ia, il, ic⟩ = b) := fun b h => Lib.hid h
 clear hT hc1' hb1 hs hl
 by_cases hi0 : i < 0
 · have dhi0 : (decide (i < 0)) = true := decide_eq_true hi0
   have HF := fin false (by simp [wfB, show ¬ (0 ≤ i) by omega])
   clear fin HZ HM
   go_enter Tryz.func73, Tryz.ntmps73
   go_upto_region 1 with fail
   rw [← hw1, ← hB]
   clear hw1 hB
   obtain ⟨b0, b1, b2, b3, b4, b5, b6, b7, b8⟩ := msg_cells B Hb.out (Chg.refl [] w1)
   go_wp2_with fail
   go_ret
   exact ⟨by rw [HF.out]; rfl, Hc.out⟩
 · have dhi0 : (decide (i < 0)) = false := decide_eq_false hi0
   have ghi0 : 0 ≤ i := by omega
   by_cases hi1 : i > 2147483647
   · have dhi1 : (decide (i > 2147483647)) = true := decide_eq_true hi1
     have HF := fin false (by simp [wfB, ghi0, show ¬ (i ≤ 2147483647) by omega])
     clear fin HZ HM
     go_enter Tryz.func73, Tryz.ntmps73
     go_upto_region 1 with fail
     rw [← hw1, ← hB]
     clear hw1 hB
     obtain ⟨b0, b1, b2, b3, b4, b5, b6, b7, b8⟩ := msg_cells B Hb.out (Chg.refl [] w1)
     go_wp2_with fail
     go_ret
     exact ⟨by rw [HF.out]; rfl, Hc.out⟩
   · have dhi1 : (decide (i > 2147483647)) = false := decide_eq_false hi1
     have ghi1 : i ≤ 2147483647 := by omega
     by_cases hc0 : c < 1
     · have dhc0 : (decide (c < 1)) = true := decide_eq_true hc0
       have HF := fin false (by simp [wfB, ghi0, ghi1, show ¬ (1 ≤ c) by omega])
       clear fin HZ HM
       go_enter Tryz.func73, Tryz.ntmps73
       go_upto_region 1 with fail
       rw [← hw1, ← hB]
       clear hw1 hB
       obtain ⟨b0, b1, b2, b3, b4, b5, b6, b7, b8⟩ := msg_cells B Hb.out (Chg.refl [] w1)
       go_wp2_with fail
       go_ret
       exact ⟨by rw [HF.out]; rfl, Hc.out⟩
     · have dhc0 : (decide (c < 1)) = false := decide_eq_false hc0
       have ghc0 : 1 ≤ c := by omega
       by_cases hc1 : c > 99
       · have dhc1 : (decide (c > 99)) = true := decide_eq_true hc1
         have HF := fin false (by simp [wfB, ghi0, ghi1, ghc0, show ¬ (c ≤ 99) by omega])
         clear fin HZ HM
         go_enter Tryz.func73, Tryz.ntmps73
         go_upto_region 1 with fail
         rw [← hw1, ← hB]
         clear hw1 hB
         obtain ⟨b0, b1, b2, b3, b4, b5, b6, b7, b8⟩ := msg_cells B Hb.out (Chg.refl [] w1)
         go_wp2_with fail
         go_ret
         exact ⟨by rw [HF.out]; rfl, Hc.out⟩
       · have dhc1 : (decide (c > 99)) = false := decide_eq_false hc1
         have ghc1 : c ≤ 99 := by omega
         cases hz : isN ⟨ek, en, et, na, nl, nc, ia, il, ic⟩
         · skip
           have HF := fin false (by simp [wfB, hz])
           clear fin
           go_enter Tryz.func73, Tryz.ntmps73
           go_upto_region 1 with fail
           rw [← hw1, ← hB]
           clear hw1 hB
           obtain ⟨b0, b1, b2, b3, b4, b5, b6, b7, b8⟩ := msg_cells B Hb.out (Chg.refl [] w1)
           go_wp2_with fail
           refine (HZ.out w1).mono ?_
           rintro e w2 ⟨rfl, hc2'⟩
           rw [hz]
           have Hc2 := Lib.hid (Hc.out.trans hc2')
           clear hc2'
           go_wp2_with fail
           go_ret
           exact ⟨by rw [HF.out]; rfl, Hc2.out⟩
         · skip
           have HF := fin (vmM 4 t) (by simp [wfB, ghi0, ghi1, ghc0, ghc1, hz])
           clear fin
           generalize vmM 4 t = b at HF HM
           go_enter Tryz.func73, Tryz.ntmps73
           go_upto_region 1 with fail
           rw [← hw1, ← hB]
           clear hw1 hB
           obtain ⟨b0, b1, b2, b3, b4, b5, b6, b7, b8⟩ := msg_cells B Hb.out (Chg.refl [] w1)
           go_wp2_with fail
           refine (HZ.out w1).mono ?_
           rintro e w2 ⟨rfl, hc2'⟩
           rw [hz]
           obtain ⟨b0, b1, b2, b3, b4, b5, b6, b7, b8⟩ := msg_cells B Hb.out hc2'
           have Hc2 := Lib.hid (Hc.out.trans hc2')
           clear hc2'
           go_wp2_with fail
           refine (HM.out w2 Hc2.out).mono ?_
           rintro e w3 ⟨rfl, hc3⟩
           have Hc3 := Lib.hid (Hc2.out.trans hc3)
           clear hc3
           go_wp2_with fail
           go_ret
           exact ⟨by rw [HF.out]; rfl, Hc3.out⟩
set_option maxHeartbeats 16000000 in
theorem wfm5 (i c ek en : Int) (t et : ByteArray) (na ia : Option Addr) (nl nc il ic : Nat) (w : World) (hT : Tb w) (hs : t.size ≤ maxLen) (hl : nl ≤ maxLen ∧ il ≤ maxLen) : Calls Tryz.prog 73 #[.agg #[.int .i64 5, .int .i64 i, .int .i64 c, .string t, .int .i64 ek, .int .i64 en, .string et, .slice na nl nc, .slice ia il ic]] w fun e w' => e = .returned (.bool (wfB 5 i c t ⟨ek, en, et, na, nl, nc, ia, il, ic⟩)) ∧ Chg [] w w' := by
 obtain ⟨w1, hw1⟩ : ∃ x, x = w.alloc (.cells #[.int .i64 5, .int .i64 i, .int .i64 c, .string t, .int .i64 ek, .int .i64 en, .string et, .slice na nl nc, .slice ia il ic] 61) := ⟨_, rfl⟩
 obtain ⟨B, hB⟩ : ∃ x, x = w.heap.size := ⟨_, rfl⟩
 have hc1' : Chg [] w w1 := by rw [hw1]; exact (Chg.refl _ _).alloc _
 have hb1 : w1.heap[B]? = some (.cells #[.int .i64 5, .int .i64 i, .int .i64 c, .string t, .int .i64 ek, .int .i64 en, .string et, .slice na nl nc, .slice ia il ic] 61 (0, 0)) := by rw [hw1, hB]; exact heap_at _ _ _ rfl
 have HM := Lib.hid (fun W (hW : Chg [] w W) => vm5 i c ek en t et na ia nl nc il ic W (hT.new hW) hs)
 have HZ := Lib.hid (fun W => isNull_any ⟨ek, en, et, na, nl, nc, ia, il, ic⟩ hl W)
 unfold Ev.val at HZ
 simp only at HZ
 have Hc := Lib.hid hc1'
 have Hb := Lib.hid hb1
 have fin : ∀ b : Bool, wfB 5 i c t ⟨ek, en, et, na, nl, nc, ia, il, ic⟩ = b → Hid (wfB 5 i c t ⟨ek, en, et, na, nl, nc, ia, il, ic⟩ = b) := fun b h => Lib.hid h
 clear hT hc1' hb1 hs hl
 by_cases hi0 : i < 0
 · have dhi0 : (decide (i < 0)) = true := decide_eq_true hi0
   have HF := fin false (by simp [wfB, show ¬ (0 ≤ i) by omega])
   clear fin HZ HM
   go_enter Tryz.func73, Tryz.ntmps73
   go_upto_region 1 with fail
   rw [← hw1, ← hB]
   clear hw1 hB
   obtain ⟨b0, b1, b2, b3, b4, b5, b6, b7, b8⟩ := msg_cells B Hb.out (Chg.refl [] w1)
   go_wp2_with fail
   go_ret
   exact ⟨by rw [HF.out]; rfl, Hc.out⟩
 · have dhi0 : (decide (i < 0)) = false := decide_eq_false hi0
   have ghi0 : 0 ≤ i := by omega
   by_cases hi1 : i > 2147483647
   · have dhi1 : (decide (i > 2147483647)) = true := decide_eq_true hi1
     have HF := fin false (by simp [wfB, ghi0, show ¬ (i ≤ 2147483647) by omega])
     clear fin HZ HM
     go_enter Tryz.func73, Tryz.ntmps73
     go_upto_region 1 with fail
     rw [← hw1, ← hB]
     clear hw1 hB
     obtain ⟨b0, b1, b2, b3, b4, b5, b6, b7, b8⟩ := msg_cells B Hb.out (Chg.refl [] w1)
     go_wp2_with fail
     go_ret
     exact ⟨by rw [HF.out]; rfl, Hc.out⟩
   · have dhi1 : (decide (i > 2147483647)) = false := decide_eq_false hi1
     have ghi1 : i ≤ 2147483647 := by omega
     by_cases hcz : c ≠ 0
     · have dhcz : (c != 0) = true := by simpa using hcz
       have HF := fin false (by simp [wfB, ghi0, ghi1, show ¬ (c = 0) by omega])
       clear fin HZ HM
       go_enter Tryz.func73, Tryz.ntmps73
       go_upto_region 1 with fail
       rw [← hw1, ← hB]
       clear hw1 hB
       obtain ⟨b0, b1, b2, b3, b4, b5, b6, b7, b8⟩ := msg_cells B Hb.out (Chg.refl [] w1)
       go_wp2_with fail
       go_ret
       exact ⟨by rw [HF.out]; rfl, Hc.out⟩
     · have dhcz : (c != 0) = false := by simpa using hcz
       have ghcz : c = 0 := by omega
       subst ghcz
       cases hz : isN ⟨ek, en, et, na, nl, nc, ia, il, ic⟩
       · skip
         have HF := fin false (by simp [wfB, hz])
         clear fin
         go_enter Tryz.func73, Tryz.ntmps73
         go_upto_region 1 with fail
         rw [← hw1, ← hB]
         clear hw1 hB
         obtain ⟨b0, b1, b2, b3, b4, b5, b6, b7, b8⟩ := msg_cells B Hb.out (Chg.refl [] w1)
         go_wp2_with fail
         refine (HZ.out w1).mono ?_
         rintro e w2 ⟨rfl, hc2'⟩
         rw [hz]
         have Hc2 := Lib.hid (Hc.out.trans hc2')
         clear hc2'
         go_wp2_with fail
         go_ret
         exact ⟨by rw [HF.out]; rfl, Hc2.out⟩
       · skip
         have HF := fin (vmM 5 t) (by simp [wfB, ghi0, ghi1, hz])
         clear fin
         generalize vmM 5 t = b at HF HM
         go_enter Tryz.func73, Tryz.ntmps73
         go_upto_region 1 with fail
         rw [← hw1, ← hB]
         clear hw1 hB
         obtain ⟨b0, b1, b2, b3, b4, b5, b6, b7, b8⟩ := msg_cells B Hb.out (Chg.refl [] w1)
         go_wp2_with fail
         refine (HZ.out w1).mono ?_
         rintro e w2 ⟨rfl, hc2'⟩
         rw [hz]
         obtain ⟨b0, b1, b2, b3, b4, b5, b6, b7, b8⟩ := msg_cells B Hb.out hc2'
         have Hc2 := Lib.hid (Hc.out.trans hc2')
         clear hc2'
         go_wp2_with fail
         refine (HM.out w2 Hc2.out).mono ?_
         rintro e w3 ⟨rfl, hc3⟩
         have Hc3 := Lib.hid (Hc2.out.trans hc3)
         clear hc3
         go_wp2_with fail
         go_ret
         exact ⟨by rw [HF.out]; rfl, Hc3.out⟩
theorem wellFormed_b (k i c : Int) (t : ByteArray) (e : Ev) (w : World) (hk : 1 ≤ k ∧ k ≤ 5) (hT : Tb w) (hs : t.size ≤ maxLen) (hl : e.nl ≤ maxLen ∧ e.il ≤ maxLen) : Calls Tryz.prog 73 #[mB k i c t e] w fun e' w' => e' = .returned (.bool (wfB k i c t e)) ∧ Chg [] w w' := by
 obtain ⟨ek, en, et, na, nl, nc, ia, il, ic⟩ := e
 have : k = 1 ∨ k = 2 ∨ k = 3 ∨ k = 4 ∨ k = 5 := by omega
 rcases this with rfl | rfl | rfl | rfl | rfl
 · exact wfm1 i c ek en t et na ia nl nc il ic w hT hs hl
 · exact wfm2 i c ek en t et na ia nl nc il ic w hT hs hl
 · exact wfm3 i c ek en t et na ia nl nc il ic w hT hs hl
 · exact wfm4 i c ek en t et na ia nl nc il ic w hT hs hl
 · exact wfm5 i c ek en t et na ia nl nc il ic w hT hs hl
set_option maxRecDepth 100000 in
set_option maxHeartbeats 8000000 in
theorem cloneR_step (p : Nat → Prop) (f : Nat)
 (ih : ∀ f', f' < f → ∀ (w : World) (j : J) (v : Value), JV p f' w v j → Sm j → Calls Tryz.prog 122 #[v] w (ClonePost j (f' + 1) w))
 (w : World) (j : J) (v : Value) (hj : JV p f w v j) (hs : Sm j) :
 Calls Tryz.prog 122 #[v] w (ClonePost j (f + 1) w) := by
 obtain ⟨k, n, t, ns, es⟩ := j
 obtain ⟨na, nc, a, cap, rfl, hns, hes, _, ⟨hl1, hl2⟩, hts⟩ := hj.shape
 simp only [J.kind, J.num, J.text, J.names, J.elems] at hns hes hl1 hl2 hts hj ⊢
 have hlen := hs.len
 unfold maxLen at hl2
 obtain ⟨w2, hw2⟩ : ∃ x, x = (w.alloc (.cells #[.int .i64 k, .int .i64 n, .string t, .slice na ns.length nc, .slice a es.length cap] 59)).alloc (.cells #[.int .i64 0, .int .i64 0, .string ⟨#[]⟩, .slice none 0 0, .slice none 0 0] 59) := ⟨_, rfl⟩
 have hc2 : Chg [] w w2 := by rw [hw2]; exact ((Chg.refl [] w).alloc _).alloc _
 obtain ⟨b, hb⟩ : ∃ b, b = w.heap.size := ⟨_, rfl⟩
 have hb2 : w2.heap[b]? = some (.cells #[.int .i64 k, .int .i64 n, .string t, .slice na ns.length nc, .slice a es.length cap] 59 (0, 0)) := by
  rw [hw2, hb, heap_past _ _ _ (by simp)]
  exact heap_at _ _ _ rfl
 have hr2 : w2.heap[b + 1]? = some (.cells #[.int .i64 0, .int .i64 0, .string ⟨#[]⟩, .slice none 0 0, .slice none 0 0] 59 (0, 0)) := by rw [hw2, hb]; exact heap_at _ _ _ (by simp)
 have hsz2 : w2.heap.size = b + 2 := by rw [hw2, hb]; simp
 have Hcl := Lib.hid (nclone_any p w2 _ ns (strs_kept (S := fun _ => False) hns hc2.p (fun _ _ h => h)) (by omega))
 obtain ⟨b0, b1, b2, b3, b4⟩ := box_kept b hb2 (Chg.refl [] w2)
 have Hes := Lib.hid hes
 have Hc2 := Lib.hid hc2
 have Hb2 := Lib.hid (And.intro hb2 (And.intro hr2 (And.intro hsz2 hb)))
 have Hs := Lib.hid hs
 have Hlen := Lib.hid hlen
 have Hts := Lib.hid hts
 have lb := lt_of_cell b0
 have fb := fun i => frozen_of_heap (i := i) hb2
 clear hns hes hc2 hb2 hr2 hsz2 hj hs hlen hts
 go_enter Tryz.func122, Tryz.ntmps122
 go_upto_region 1 with fail
 rw [← hw2, ← hb]
 clear hw2 hb
 go_wp2_with fail
 refine Hcl.out.mono ?_
 rintro e w3 ⟨v3, rfl, ho3, hc3⟩
 obtain ⟨a3, c3, rfl⟩ := ownsRow_shape ho3.1
 have hb3 := (hc3.block b (lt_of_obj Hb2.out.1) (by simp)).trans Hb2.out.1
 have hr3 := (hc3.block (b + 1) (lt_of_obj Hb2.out.2.1) (by simp)).trans Hb2.out.2.1
 obtain ⟨w4, hw4⟩ : ∃ x, x = (w3.setCell ⟨b, 3, none⟩ (.slice a3 ns.length c3)).setCell ⟨b, 4, none⟩ (.slice none 0 0) := ⟨_, rfl⟩
 have hc4 : Chg [b] w3 w4 := by rw [hw4]; exact ((Chg.refl [b] w3).setCell (Or.inl (by simp)) _).setCell (Or.inl (by simp)) _
 have hb4 : w4.heap[b]? = some (.cells #[.int .i64 k, .int .i64 n, .string t, .slice a3 ns.length c3, .slice none 0 0] 59 (0, 0)) := by
  rw [hw4]
  exact heap_setCell_same (heap_setCell_same hb3 _) _
 have hr4 := (hc4.block (b + 1) (lt_of_obj hr3) (by simp)).trans hr3
 have hcw4 : Chg [] w w4 := (Hc2.out.trans hc3).comp hc4 (by intro x hx; right; rw [List.mem_singleton.1 hx]; have := Hb2.out.2.2.2; omega)
 have hsz := Hb2.out.2.2.1
 have ho4 := ho3.kept hc4.toP (fun g hg hm => by have := (ownsRow_ge ho3.1 hg).1; have h' := List.mem_singleton.1 hm; omega)
 have HCL : Hid (CL w w4 f k n t (.slice a3 ns.length c3) (.slice none 0 0) b ns (es.take 0)) := Lib.hid ⟨hb4, JRow.nil _ _ _, ho4.read (fun g hg => by have h' := ownsRow_ge ho4.1 hg; exact ⟨⟨by omega, h'.2⟩, by simp [Value.ownBlock]⟩), hcw4, hr4⟩
 have c33 : w3.cell? ⟨b, 3, none⟩ = some (.slice na ns.length nc) := cell_of_heap hb3 rfl
 have c34 : w3.cell? ⟨b, 4, none⟩ = some (.slice a es.length cap) := cell_of_heap hb3 rfl
 have f33 := fun i => frozen_of_heap (i := i) hb3
 clear hb3 hr3 hc4 hb4 hr4 hcw4 hsz ho4 ho3 hc3 b0 b1 b2 b3 b4 fb
 go_upto_region 3 with fail
 rw [← hw4]
 clear hw4 c33 c34 f33
 go_wp2_with fail
 go_loopw [15] (fun ii wr => ∃ (i : Nat) (ia : Option Addr) (ic : Nat), i ≤ es.length ∧ ii = .int .i64 (i : Nat) ∧ Hid (CL w wr f k n t (.slice a3 ns.length c3) (.slice ia i ic) b ns (es.take i))) (fun ii _ => es.length - (intOf ii).toNat)
 case atStart => exact ⟨0, none, 0, by omega, rfl, HCL⟩
 case round =>
  obtain ⟨i, ia, ic, hi, rfl, HC⟩ := hrel
  by_cases hlt : i < es.length
  · have hij : (i : Int) < es.length := by omega
    have hesr : SlR p 5 (rdJ p f) wr (.slice a es.length cap) es := SlR.imp Hes.out (fun _ h => h) fun ad x hp hx => rdJ.kept (S := fun _ => False) HC.out.chg.p (fun g hg e => e) hp hx
    obtain ⟨g, off, na', nc', ia', ic', rfl, hpg, e0, e1, e2, e3, e4, f', rfl, hjv⟩ := elem_at hesr hlt
    obtain ⟨el, hel⟩ : ∃ el, el = es[i] := ⟨_, rfl⟩
    rw [← hel] at e0 e1 e2 e3 e4 hjv
    have hsm : Sm el := Hs.out.elem (hel ▸ List.getElem_mem hlt)
    have htk : es.take (i + 1) = es.take i ++ [el] := by rw [List.take_add_one, List.getElem?_eq_getElem hlt, hel]; rfl
    obtain ⟨ek, hek⟩ : ∃ x, x = el.kind := ⟨_, rfl⟩
    obtain ⟨en, hen⟩ : ∃ x, x = el.num := ⟨_, rfl⟩
    obtain ⟨et, het⟩ : ∃ x, x = el.text := ⟨_, rfl⟩
    rw [← hek] at e0 hjv
    rw [← hen] at e1 hjv
    rw [← het] at e2 hjv
    obtain ⟨nl, hnl⟩ : ∃ x, x = el.names.length := ⟨_, rfl⟩
    obtain ⟨il, hil⟩ : ∃ x, x = el.elems.length := ⟨_, rfl⟩
    rw [← hnl] at e3 hjv
    rw [← hil] at e4 hjv
    obtain ⟨w5, hw5⟩ : ∃ x, x = wr.alloc (.cells #[.int .i64 ek, .int .i64 en, .string et, .slice na' nl nc', .slice ia' il ic'] 59) := ⟨_, rfl⟩
    obtain ⟨q, hq⟩ : ∃ x, x = wr.heap.size := ⟨_, rfl⟩
    have hc5 : Chg [] wr w5 := by rw [hw5]; exact (Chg.refl _ _).alloc _
    have hb5 : w5.heap[q]? = some (.cells #[.int .i64 ek, .int .i64 en, .string et, .slice na' nl nc', .slice ia' il ic'] 59 (0, 0)) := by rw [hw5, hq]; exact heap_at _ _ _ rfl
    have hbb := (hc5.block b (lt_of_obj HC.out.box) (by simp)).trans HC.out.box
    have hql := lt_of_obj hb5
    have hqb : b < q := by rw [hq]; exact lt_of_obj HC.out.box
    have Hcall := Lib.hid (fun W (hW : Chg [] w5 W) => ih f' (by omega) W el _ (hjv.kept (S := fun _ => False) (hc5.trans hW).p (fun _ _ h => h)) hsm)
    have hrow5 := HC.out.row.same hc5
    have H5 := Lib.hid (And.intro hb5 (And.intro hbb (And.intro hc5 (And.intro hrow5 htk))))
    have Hq := Lib.hid (And.intro hql (And.intro hqb hq))
    clear hesr hel hek hen het hnl hil hjv hpg hsm hb5 hbb hc5 hrow5 htk hql hqb
    go_upto_region 6 with fail
    rw [← hw5, ← hq]
    clear hw5 hq e0 e1 e2 e3 e4
    refine wp_region_U (fun w' => w'.cell? ⟨b, 4, none⟩ = some (.slice ia i ic) ∧ w'.cell? ⟨q, 0, none⟩ = some (.int .i64 ek) ∧ w'.cell? ⟨q, 1, none⟩ = some (.int .i64 en) ∧ w'.cell? ⟨q, 2, none⟩ = some (.string et) ∧ w'.cell? ⟨q, 3, none⟩ = some (.slice na' nl nc') ∧ w'.cell? ⟨q, 4, none⟩ = some (.slice ia' il ic')) (fun _ => True) 7 (by kernel_rfl) ?_
    intro wd hwd
    have hcd : Chg [] w5 wd := by rw [hwd]; exact (Chg.refl _ _).drew
    have hbd := (hcd.block q (lt_of_obj H5.out.1) (by simp)).trans H5.out.1
    have hbbd := (hcd.block b (lt_of_obj H5.out.2.1) (by simp)).trans H5.out.2.1
    have hSW := And.intro (cell_of_heap hbbd (i := 4) rfl) (box_kept q hbd (Chg.refl [] wd))
    have Hcd := Lib.hid hcd
    have Hbd := Lib.hid (And.intro hbd hbbd)
    clear hwd hcd hbd hbbd
    refine anyU_pure (i := 0) (v := .pointer (some ⟨b, 4, none⟩)) rfl (by kernel_rfl) (fun _ _ _ h => h) (Or.inl ⟨by rfl, fun w' hS => by go_simp⟩) (fun _ => hSW) trivial ?_
    simp only [Act.put, setIfInBounds_toArray, set_cons_zero, set_cons_succ]
    refine anyU_take (i := 1) (v := .slice ia i ic) rfl (by kernel_rfl) (fun _ _ _ h => h) (Or.inl ⟨by rfl, fun w' hS => by go_simp⟩) hSW trivial ?_
    simp only [Act.put, setIfInBounds_toArray, set_cons_zero, set_cons_succ]
    refine anyU_take (i := 2) (v := .agg #[.int .i64 ek, .int .i64 en, .string et, .slice na' nl nc', .slice ia' il ic']) rfl (by kernel_rfl) (fun _ _ _ h => h) (Or.inl ⟨by rfl, fun w' hS => by go_simp⟩) hSW trivial ?_
    simp only [Act.put, setIfInBounds_toArray, set_cons_zero, set_cons_succ]
    refine anyU_one (k := 3) (by kernel_rfl) rfl (fun K hK => ?_)
    go_simp
    refine (Hcall.out wd Hcd.out).mono ?_
    rintro e w6 ⟨v6, rfl, hv6, c6⟩
    obtain ⟨e6, rfl⟩ := hv6.ev'
    have hb6 := (c6.block q (lt_of_obj Hbd.out.1) (by simp)).trans Hbd.out.1
    have hbb6 := (c6.block b (lt_of_obj Hbd.out.2) (by simp)).trans Hbd.out.2
    have hS6 := And.intro (cell_of_heap hbb6 (i := 4) rfl) (box_kept q hb6 (Chg.refl [] w6))
    have H6 := Lib.hid (And.intro hb6 (And.intro hbb6 (And.intro hv6 c6)))
    clear hv6 c6 hb6 hbb6 hSW
    refine hK _ _ (fun _ => hS6) trivial ?_
    clear hK K
    unfold Ev.val
    refine anyU_one (k := 4) (by kernel_rfl) rfl (fun K hK => ?_)
    go_simp
    obtain ⟨w7, hw7⟩ : ∃ x, x = w6.alloc (.cells #[.int .i64 e6.k, .int .i64 e6.n, .string e6.t, .slice e6.na e6.nl e6.nc, .slice e6.ia e6.il e6.ic] 59) := ⟨_, rfl⟩
    obtain ⟨q7, hq7⟩ : ∃ x, x = w6.heap.size := ⟨_, rfl⟩
    have hc7 : Chg [] w6 w7 := by rw [hw7]; exact (Chg.refl _ _).alloc _
    have hb7 : w7.heap[q7]? = some (.cells #[.int .i64 e6.k, .int .i64 e6.n, .string e6.t, .slice e6.na e6.nl e6.nc, .slice e6.ia e6.il e6.ic] 59 (0, 0)) := by rw [hw7, hq7]; exact heap_at _ _ _ rfl
    rw [← hw7, ← hq7]
    have hb6 := (hc7.block q (lt_of_obj H6.out.1) (by simp)).trans H6.out.1
    have hbb6 := (hc7.block b (lt_of_obj H6.out.2.1) (by simp)).trans H6.out.2.1
    have hS7 := And.intro (cell_of_heap hbb6 (i := 4) rfl) (box_kept q hb6 (Chg.refl [] w7))
    have hc57 := (Hcd.out.trans H6.out.2.2.2).trans hc7
    have hv7 : JV (fun g => (b + 2 ≤ g ∧ g < w7.heap.size) ∧ (Value.slice ia i ic).ownBlock ≠ some g) (f' + 1) w7 e6.val el := (H6.out.2.2.1.same hc7).imp fun g hg => by
     have hz := Hcd.out.size
     have h1 := Hq.out
     have h2 := H5.out.2.2.1.size
     refine ⟨⟨by have := lt_of_obj HC.out.res; omega, hg.2⟩, fun e => ?_⟩
     have := (HC.out.row.own e).2
     omega
    have hrow7 := H5.out.2.2.2.1.same hc57
    have hlt8 : (es.take i).length = i := by rw [List.length_take]; omega
    obtain ⟨a8, c8, w8, hr8, hrow8, hc8, hob8⟩ := hrow7.push (e := e6) (x := el) (n := q7) 57 hb7 hv7 (by rw [hlt8]; have := Hlen.out.2; omega) (by have := lt_of_obj hbb6; have h1 := lt_of_obj HC.out.res; have h2 := H5.out.2.2.1.size; have h3 := hc57.size; omega)
    rw [hlt8] at hr8 hrow8
    rw [← H5.out.2.2.2.2] at hrow8
    have hnot : ∀ g, g < b + 2 → g ∉ (Value.slice ia i ic).ownBlock.toList := fun g hg hm => by
     have := (HC.out.row.own (g := g) (by simpa using hm)).1
     omega
    have hnq : q ∉ (Value.slice ia i ic).ownBlock.toList := fun hm => by
     have := (HC.out.row.own (g := q) (by simpa using hm)).2
     have := Hq.out.2.2
     omega
    have hb8 := (hc8.block q (lt_of_obj hb6) hnq).trans hb6
    have hbb8 := (hc8.block b (lt_of_obj hbb6) (hnot b (by omega))).trans hbb6
    have hS8 := And.intro (cell_of_heap hbb8 (i := 4) rfl) (box_kept q hb8 (Chg.refl [] w8))
    have hcw8 : Chg [] w w8 := ((HC.out.chg.trans H5.out.2.2.1).trans hc57).comp hc8 fun g hg => Or.inr (by
     have h1 := HC.out.row.own (g := g) (by simpa using hg)
     have h2 := Hb2.out.2.2.2
     omega)
    have hs58 := Nat.le_trans (Nat.le_trans H5.out.2.2.1.size hc57.size) hc8.size
    have hs57 := Nat.le_trans H5.out.2.2.1.size hc57.size
    have hnm8 : SlR (fun g => (b + 2 ≤ g ∧ g < w8.heap.size) ∧ (Value.slice a8 (i + 1) c8).ownBlock ≠ some g) 1 rdS w8 (.slice a3 ns.length c3) ns := by
     refine SlR.imp (strs_kept HC.out.nms (((H5.out.2.2.1.trans hc57).toP.mono (T := fun g => g ∈ (Value.slice ia i ic).ownBlock.toList) (by simp)).trans hc8.toP) (fun g hg hm => hg.2 (by simpa using hm))) (fun g hg => ⟨⟨hg.1.1, by have := hg.1.2; omega⟩, fun e => ?_⟩) (fun _ _ _ h => h)
     rcases hob8 with ho | ho
     · exact hg.2 (ho.symm.trans (by rw [hlt8]; exact e))
     · rw [hlt8] at ho
       rw [ho] at e
       cases e
       have := hg.1.2
       omega
    have hr88 := (hc8.block (b + 1) (by have h1 := lt_of_obj HC.out.res; have h2 := H5.out.2.2.1.size; have h3 := hc57.size; omega) (hnot (b + 1) (by omega))).trans (((H5.out.2.2.1.trans hc57).block (b + 1) (lt_of_obj HC.out.res) (by simp)).trans HC.out.res)
    have H8 := Lib.hid (And.intro hbb8 (And.intro hrow8 (And.intro hcw8 (And.intro hnm8 hr88))))
    have Hr8 := Lib.hid hr8
    clear hs58 hs57 hob8 hb6 hbb6 hc57 hv7 hrow7 hlt8 hr8 hrow8 hc8 hnot hnq hb8 hbb8 hcw8 hnm8 hr88 hc7 hb7 hw7 hq7
    refine hK _ _ (fun _ => hS7) trivial ?_
    clear hK K
    refine anyU_one (k := 5) (by kernel_rfl) rfl (fun K hK => ?_)
    rw [if_pos (by rfl)]
    refine wp_append_run _ _ 57 rfl _ _ _ _ rfl rfl Hr8.out ?_
    refine hK _ _ (fun _ => hS8) trivial ?_
    clear hK K
    simp only [Act.put, setIfInBounds_toArray, set_cons_zero, set_cons_succ]
    refine anyU_one (k := 6) (by kernel_rfl) rfl (fun K hK => ?_)
    go_simp
    refine hK _ _ (fun _ => hS8) trivial ?_
    clear hK K
    have k4 := hS8.1
    have f4 := frozen_of_heap (i := 4) H8.out.1
    clear hS6 hS7
    refine anyU_one (k := 7) (by kernel_rfl) rfl (fun K hK => ?_)
    go_simp
    refine hK _ _ (fun h => by simp at h) trivial ?_
    clear hK K
    refine anyU_done (by kernel_rfl) ?_
    go_wp2_with fail
    have hcs : Chg [b] w8 (w8.setCell ⟨b, 4, none⟩ (.slice a8 (i + 1) c8)) := (Chg.refl [b] w8).setCell (Or.inl (by simp)) _
    have hbw := Hb2.out.2.2.2
    refine ⟨⟨i + 1, a8, c8, by omega, by go_num, Lib.hid ⟨heap_setCell_same H8.out.1 _, H8.out.2.1.kept hcs.toP (fun g hg => by rw [List.mem_singleton.1 hg]; omega), SlR.imp (strs_kept H8.out.2.2.2.1 hcs.toP (fun g hg hm => by have := List.mem_singleton.1 hm; have := hg.1.1; omega)) (fun g hg => ⟨⟨hg.1.1, Nat.lt_of_lt_of_le hg.1.2 hcs.size⟩, hg.2⟩) (fun _ _ _ h => h), H8.out.2.2.1.setCell (Or.inr (by rw [hbw]; exact Nat.le_refl _)) _, (heap_setCell_ne _ _ _ _ (by simp)).trans H8.out.2.2.2.2⟩⟩, by simp [intOf]; omega⟩
  · obtain rfl : i = es.length := by omega
    rw [List.take_length] at HC
    obtain ⟨b0, b1, b2, b3, b4⟩ := box_kept b HC.out.box (Chg.refl [] wr)
    obtain ⟨r0, r1, r2, r3, r4⟩ := box_kept (b + 1) HC.out.res (Chg.refl [] wr)
    have fr := fun i => frozen_of_heap (i := i) HC.out.res
    have lr := lt_of_cell r0
    go_wp2_with fail
    have hC := HC.out
    refine bodyPost_ret (v := .agg #[.int .i64 k, .int .i64 n, .string t, .slice a3 ns.length c3, .slice ia es.length ic]) (by simp [results, Tryz.results122, go_sem, r0, r1, r2, r3, r4]) rfl ?_
    have hbw := Hb2.out.2.2.2
    have hcs : Chg [b + 1] wr (((((wr.setCell ⟨b + 1, 0, none⟩ (.int .i64 k)).setCell ⟨b + 1, 1, none⟩ (.int .i64 n)).setCell ⟨b + 1, 2, none⟩ (.string t)).setCell ⟨b + 1, 3, none⟩ (.slice a3 ns.length c3)).setCell ⟨b + 1, 4, none⟩ (.slice ia es.length ic)) :=
     (((((Chg.refl [b + 1] wr).setCell (Or.inl (by simp)) _).setCell (Or.inl (by simp)) _).setCell (Or.inl (by simp)) _).setCell (Or.inl (by simp)) _).setCell (Or.inl (by simp)) _
    refine ⟨_, rfl, JN.base (B := b + 2) (JN.mk ?_ ?_ Hts.out) (by omega), hC.chg.comp hcs fun g hg => Or.inr (by rw [List.mem_singleton.1 hg]; omega)⟩
    · exact SlR.imp (strs_kept hC.nms hcs.toP (fun g hg hm => by have := List.mem_singleton.1 hm; have := hg.1.1; omega)) (fun g hg => ⟨hg.1.1, Nat.lt_of_lt_of_le hg.1.2 hcs.size⟩) (fun _ _ _ h => h)
    · exact (hC.row.kept hcs.toP (fun g hg => by rw [List.mem_singleton.1 hg]; omega)).read
theorem cloneR_any (p : Nat → Prop) : ∀ (f : Nat) (w : World) (j : J) (v : Value), JV p f w v j → Sm j → Calls Tryz.prog 122 #[v] w (ClonePost j (f + 1) w) := by
 intro f
 induction f using Nat.strongRecOn with
 | ind f ih => exact fun w j v h1 h2 => cloneR_step p f ih w j v h1 h2
section
variable {W : World} {B n : Nat} {T : TypeId}
theorem nms_2 {a b : ByteArray} (h : W.heap[n]? = some (.cells #[.string a, .string b] T (0, 0))) (hB : B ≤ n) (ha : a.size ≤ maxLen) (hb : b.size ≤ maxLen) : SlR (fun g => B ≤ g ∧ g < W.heap.size) 1 rdS W (.slice (some ⟨n, 0, none⟩) 2 2) [a, b] :=
 ⟨_, 2, rfl, Nat.le_refl _, by decide, fun _ => ⟨n, 0, rfl, ⟨hB, lt_of_obj h⟩, fun j hj => match j, hj with
  | 0, _ => ⟨cell_of_heap h rfl, ha⟩
  | 1, _ => ⟨cell_of_heap h rfl, hb⟩⟩⟩
theorem nms_3 {a b c : ByteArray} (h : W.heap[n]? = some (.cells #[.string a, .string b, .string c] T (0, 0))) (hB : B ≤ n) (ha : a.size ≤ maxLen) (hb : b.size ≤ maxLen) (hc : c.size ≤ maxLen) : SlR (fun g => B ≤ g ∧ g < W.heap.size) 1 rdS W (.slice (some ⟨n, 0, none⟩) 3 3) [a, b, c] :=
 ⟨_, 3, rfl, Nat.le_refl _, by decide, fun _ => ⟨n, 0, rfl, ⟨hB, lt_of_obj h⟩, fun j hj => match j, hj with
  | 0, _ => ⟨cell_of_heap h rfl, ha⟩
  | 1, _ => ⟨cell_of_heap h rfl, hb⟩
  | 2, _ => ⟨cell_of_heap h rfl, hc⟩⟩⟩
theorem rd_leaf {p : Nat → Prop} {f o : Nat} {k x : Int} {s : ByteArray} (h0 : W.cell? ⟨n, o, none⟩ = some (.int .i64 k)) (h1 : W.cell? ⟨n, o + 1, none⟩ = some (.int .i64 x)) (h2 : W.cell? ⟨n, o + 2, none⟩ = some (.string s)) (h3 : W.cell? ⟨n, o + 3, none⟩ = some (.slice none 0 0)) (h4 : W.cell? ⟨n, o + 4, none⟩ = some (.slice none 0 0)) (hs : s.size ≤ maxLen) : rdJ p (f + 1) W ⟨n, o, none⟩ (.mk k x s [] []) :=
 ⟨h0, h1, ⟨h2, hs⟩, _, _, h3, h4, SlR.nil _ _ _ _, SlR.nil _ _ _ _⟩
theorem els_2 {f : Nat} {a b : J} (hl : n < W.heap.size) (hB : B ≤ n) (ha : rdJ (fun g => B ≤ g ∧ g < W.heap.size) f W ⟨n, 0, none⟩ a) (hb : rdJ (fun g => B ≤ g ∧ g < W.heap.size) f W ⟨n, 5, none⟩ b) : SlR (fun g => B ≤ g ∧ g < W.heap.size) 5 (rdJ (fun g => B ≤ g ∧ g < W.heap.size) f) W (.slice (some ⟨n, 0, none⟩) 2 2) [a, b] :=
 ⟨_, 2, rfl, Nat.le_refl _, by decide, fun _ => ⟨n, 0, rfl, ⟨hB, hl⟩, fun j hj => match j, hj with
  | 0, _ => ha
  | 1, _ => hb⟩⟩
theorem els_3 {f : Nat} {a b c : J} (hl : n < W.heap.size) (hB : B ≤ n) (ha : rdJ (fun g => B ≤ g ∧ g < W.heap.size) f W ⟨n, 0, none⟩ a) (hb : rdJ (fun g => B ≤ g ∧ g < W.heap.size) f W ⟨n, 5, none⟩ b) (hc : rdJ (fun g => B ≤ g ∧ g < W.heap.size) f W ⟨n, 10, none⟩ c) : SlR (fun g => B ≤ g ∧ g < W.heap.size) 5 (rdJ (fun g => B ≤ g ∧ g < W.heap.size) f) W (.slice (some ⟨n, 0, none⟩) 3 3) [a, b, c] :=
 ⟨_, 3, rfl, Nat.le_refl _, by decide, fun _ => ⟨n, 0, rfl, ⟨hB, hl⟩, fun j hj => match j, hj with
  | 0, _ => ha
  | 1, _ => hb
  | 2, _ => hc⟩⟩
end
end Go.Proofs.YtjlknaahpjiibaaGreatDoor.Jv
