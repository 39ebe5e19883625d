/- Frames: the header's line. -/
import Derived.Test.YtjcalbjblbbinaaDoorFrPlain
import Derived.Test.YtjcalbjblbbinaaDoorFrStr
import Derived.Test.YtjcalbjblbbinaaDoorFrShelf
import Derived.Shelf.Strings.SlTrimAscii
namespace Go.Proofs.YtjcalbjblbbinaaDoor
open Go.RowKit Go.ChangeMaps Go.MapKept
set_option linter.unusedVariables false
set_option linter.unusedSimpArgs false
/-- the library's variable that Index reads -/
def ML (w : World) : Prop := ∃ m : Int, w.cell? ⟨0, 0, none⟩ = some (.int .i64 m)
theorem ML.kept {S : Nat → Prop} {w w' : World} (h : ML w) (hc : ChgP S w w') (hS : ¬ S 0) : ML w' := by
  obtain ⟨m, hm⟩ := h
  exact ⟨m, (hc.cell (lt_of_cell hm) hS).trans hm⟩
theorem ML.new {w w' : World} (h : ML w) (hc : Chg [] w w') : ML w' := h.kept (S := fun _ => False) hc.p (fun h => h)
theorem get_mem {t : ByteArray} {k : Nat} (hk : k < t.size) : t[k] ∈ t.data.toList := by
  have h : k < t.data.toList.length := hk
  have h2 : t[k] = t.data.toList[k] := rfl
  rw [h2]
  exact List.getElem_mem h
theorem emp_no {t : ByteArray} (h : t ≠ ⟨#[]⟩) : t.toList.isEmpty = false := by
  rw [← decide_eq_emptyBytes]
  exact decide_eq_false h
set_option maxHeartbeats 4000000 in
theorem validName_any (t : ByteArray) (w : World) (h : ∀ c ∈ t.data.toList, 32 < c.toNat ∧ c.toNat ≤ 126) (hne : t ≠ ⟨#[]⟩) (hs : t.size ≤ 100000) :
    Calls Tryd.prog 21 #[.string t] w fun e w' => e = .returned (.bool true) ∧ w' = w := by
  have H := Lib.hid (fun k (hk : k < t.size) => h _ (get_mem hk))
  have hemp := emp_no hne
  clear h hne
  go_enter Tryd.func21, Tryd.ntmps21
  go_wp2_with fail
  go_loopw [6] (fun v wr => ∃ k : Nat, k ≤ t.size ∧ v = .int .i64 (k : Nat) ∧ Hid (wr = w)) (fun v _ => t.size - (intOf v).toNat)
  case atStart => exact ⟨0, by omega, rfl, Lib.hid rfl⟩
  case round =>
    obtain ⟨k, hk, rfl, HW⟩ := hrel
    obtain rfl := HW.out
    by_cases hlt : k < t.size
    · have hki : (k : Int) < t.size := by omega
      have hk0 : (0 : Int) ≤ k := by omega
      obtain ⟨ha1, ha2⟩ := H.out k hlt
      obtain ⟨a, ha⟩ : ∃ a, t[k].toNat = a := ⟨_, rfl⟩
      rw [ha] at ha1 ha2
      have d1 : decide ((a : Int) ≤ 32) = false := decide_eq_false (by omega)
      have d2 : decide ((126 : Int) < (a : Int)) = false := decide_eq_false (by omega)
      go_wp2_with fail
      exact ⟨⟨k + 1, by omega, by go_num, Lib.hid trivial⟩, by simp [intOf]; omega⟩
    · have hki : ¬ ((k : Int) < t.size) := by omega
      go_wp2_with fail
      go_ret
      exact ⟨rfl, rfl⟩
set_option maxHeartbeats 4000000 in
theorem validValue_any (t : ByteArray) (w : World) (h : ∀ c ∈ t.data.toList, 32 ≤ c.toNat ∧ c.toNat ≤ 126) (hs : t.size ≤ 100000) :
    Calls Tryd.prog 22 #[.string t] w fun e w' => e = .returned (.bool true) ∧ w' = w := by
  have H := Lib.hid (fun k (hk : k < t.size) => h _ (get_mem hk))
  clear h
  go_enter Tryd.func22, Tryd.ntmps22
  go_wp2_with fail
  go_loopw [7] (fun v wr => ∃ k : Nat, k ≤ t.size ∧ v = .int .i64 (k : Nat) ∧ Hid (wr = w)) (fun v _ => t.size - (intOf v).toNat)
  case atStart => exact ⟨0, by omega, rfl, Lib.hid rfl⟩
  case round =>
    obtain ⟨k, hk, rfl, HW⟩ := hrel
    obtain rfl := HW.out
    by_cases hlt : k < t.size
    · have hki : (k : Int) < t.size := by omega
      have hk0 : (0 : Int) ≤ k := by omega
      obtain ⟨ha1, ha2⟩ := H.out k hlt
      obtain ⟨a, ha⟩ : ∃ a, t[k].toNat = a := ⟨_, rfl⟩
      rw [ha] at ha1 ha2
      have d1 : decide ((a : Int) < 32) = false := decide_eq_false (by omega)
      have d2 : decide ((126 : Int) < (a : Int)) = false := decide_eq_false (by omega)
      have d3 : ((a : Int) != 9) = true := by simp; omega
      have d4 : ((a : Int) == 9) = false := by simp; omega
      go_wp2_with fail
      exact ⟨⟨k + 1, by omega, by go_num, Lib.hid trivial⟩, by simp [intOf]; omega⟩
    · have hki : ¬ ((k : Int) < t.size) := by omega
      go_wp2_with fail
      go_ret
      exact ⟨rfl, rfl⟩
theorem trim_any (s cs : ByteArray) (w : World) (hs : s.size ≤ 100000) (hcs : cs.size ≤ 100) (ha : (cs.data.toList.all fun b => decide (b.toNat < 128)) = true) :
    Calls Tryd.prog 25 #[.string s, .string cs] w fun e w' => e = .returned (.string ⟨(Lib.trimS s.data.toList cs.data.toList).toArray⟩) ∧ Chg [] w w' :=
  (Any.strings_Trim_laid Tryd.lays160 (by kernel_rfl) s cs w (by omega) (by omega) (fun j b hb => by
    have := List.all_eq_true.1 ha b (List.mem_of_getElem? hb)
    simpa using this)).mono fun e w' ⟨h1, h2⟩ => ⟨h1, Chg.of_below h2⟩
/-- a number in a block -/
def NB (w : World) (hb : Nat) (x : Int) : Prop := w.heap[hb]? = some (.cells #[.int .i64 x] 46 (0, 0))
theorem NB.c0 {w : World} {hb : Nat} {x : Int} (h : NB w hb x) : w.cell? ⟨hb, 0, none⟩ = some (.int .i64 x) := cell_of_heap h rfl
theorem NB.fz {w : World} {hb : Nat} {x : Int} (h : NB w hb x) : w.frozen? ⟨hb, 0, none⟩ = false := frozen_of_heap (i := 0) h
theorem NB.new {w w' : World} {hb : Nat} {x : Int} (h : NB w hb x) (hc : Chg [] w w') : NB w' hb x := (hc.block hb (lt_of_obj h) (by simp)).trans h
theorem NB.set {w : World} {hb : Nat} {x : Int} (h : NB w hb x) (y : Int) : NB (w.setCell ⟨hb, 0, none⟩ (.int .i64 y)) hb y := by
  unfold NB at h ⊢
  rw [heap_setCell_same h]
  rfl
theorem nb_chg (w : World) (hb : Nat) (u : Value) : Chg [hb] w (w.setCell ⟨hb, 0, none⟩ u) := (Chg.refl [hb] w).setCell (Or.inl (by simp)) _
def dgs (n : Nat) : ByteArray := ⟨(Lib.decDigits n).toArray⟩
theorem dgs_size {n : Nat} (h : n ≤ 4000) : 1 ≤ (dgs n).size ∧ (dgs n).size ≤ 4 := by
  have e : (dgs n).size = (Lib.decDigits n).length := by unfold dgs; simp [ByteArray.size]
  rw [e, Lib.decDigits_length]
  exact ⟨Lib.nDigits_pos n, nDigits_le 3 n (by omega)⟩
set_option maxHeartbeats 4000000 in
theorem setLength_any (hb n : Nat) (w : World) (hn : n ≤ 4000) (h : NB w hb (-1)) :
    Calls Tryd.prog 24 #[.pointer (some ⟨hb, 0, none⟩), .string (dgs n)] w fun e w' => e = .returned (.bool true) ∧ NB w' hb (n : Nat) ∧ Chg [hb] w w' := by
  have H := Lib.hid h
  have c0 := h.c0
  have lb := lt_of_cell c0
  obtain ⟨d1, d2⟩ := dgs_size hn
  have hne : dgs n ≠ ⟨#[]⟩ := fun e => by rw [e] at d1; exact absurd d1 (by decide)
  have hemp := emp_no hne
  have Htr := Lib.hid (trim_any (dgs n) ⟨#[48, 49, 50, 51, 52, 53, 54, 55, 56, 57]⟩ w (by omega) (by decide) (by decide))
  rw [show (dgs n).data.toList = Lib.decDigits n from rfl, show (ByteArray.mk #[48, 49, 50, 51, 52, 53, 54, 55, 56, 57]).data.toList = [48, 49, 50, 51, 52, 53, 54, 55, 56, 57] from rfl, trim_dig] at Htr
  have Hat := Lib.hid (fun W => Tryd.strconv_Atoi (dgs n) (n : Nat) (by omega) (atoi_dig n) W)
  have hs6 : decide ((6 : Int) < (dgs n).size) = false := decide_eq_false (by omega)
  have hn4 : decide ((n : Int) ≤ 4000) = true := decide_eq_true (by omega)
  clear hne
  generalize dgs n = t at hemp Htr Hat hs6 d1 d2
  clear h
  go_enter Tryd.func24, Tryd.ntmps24
  go_wp2_with fail
  refine Htr.out.mono ?_
  rintro e w1 ⟨rfl, hc1⟩
  have H1 := Lib.hid (And.intro (H.out.new hc1) hc1)
  clear hc1
  go_wp2_with fail
  refine (Hat.out w1).mono ?_
  rintro e w2 ⟨rfl, x, rfl⟩
  have hc2 : Chg [] w1 (Lib.bytesWorld w1 5 x) := Chg.of_below (Lib.bytesWorld_below w1 _ x)
  obtain ⟨w2, hw2⟩ : ∃ y, y = Lib.bytesWorld w1 5 x := ⟨_, rfl⟩
  rw [← hw2] at hc2 ⊢
  have H2 := Lib.hid (And.intro (H1.out.1.new hc2) (H1.out.2.trans hc2))
  clear hc2 hw2
  have f2 := H2.out.1.fz
  have c2 := H2.out.1.c0
  have lb2 := lt_of_cell c2
  go_wp2_with fail
  go_ret
  exact ⟨rfl, H2.out.1.set _, (H2.out.2.mono (by simp)).trans (nb_chg _ _ _)⟩
end Go.Proofs.YtjcalbjblbbinaaDoor
