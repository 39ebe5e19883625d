/- Part of the proof of topCrashedLaw_holds. -/
import Derived.Shelf.Strings.SlTrimAscii
import Derived.OwnWalk
import Derived.StillTailTactics
import Derived.Test.YtjlknaahpjiibaaGreatDoorQad
import Derived.Test.YtjlknaahpjiibaaGreatDoorQbk
import Derived.Test.YtjlknaahpjiibaaGreatDoorQbl
namespace Go.Proofs.YtjlknaahpjiibaaGreatDoor.Fr
open Go.RowKit Go.ChangeMaps Go.MapKept
set_option linter.unusedVariables false
set_option linter.unusedSimpArgs false
def ML (w : World) : Prop := ∃ m : Int, w.cell? ⟨0, 0, none⟩ = some (.int .i64 m)
theorem ML.kept {S : Nat → Prop} {w w' : World} (h : ML w) (hc : ChgP S w w') (hS : ¬ S 0) : ML w' := by
 obtain ⟨m, hm⟩ := h
 exact ⟨m, (hc.cell (lt_of_cell hm) hS).trans hm⟩
theorem ML.new {w w' : World} (h : ML w) (hc : Chg [] w w') : ML w' := h.kept (S := fun _ => False) hc.p (fun h => h)
theorem get_mem {t : ByteArray} {k : Nat} (hk : k < t.size) : t[k] ∈ t.data.toList := by
 have h : k < t.data.toList.length := hk
 have h2 : t[k] = t.data.toList[k] := rfl
 rw [h2]
 exact List.getElem_mem h
theorem emp_no {t : ByteArray} (h : t ≠ ⟨#[]⟩) : t.toList.isEmpty = false := by
 rw [← decide_eq_emptyBytes]
 exact decide_eq_false h
set_option maxHeartbeats 4000000 in
theorem validName_any (t : ByteArray) (w : World) (h : ∀ c ∈ t.data.toList, 32 < c.toNat ∧ c.toNat ≤ 126) (hne : t ≠ ⟨#[]⟩) (hs : t.size ≤ 100000) :
 Calls Tryz.prog 197 #[.string t] w fun e w' => e = .returned (.bool true) ∧ w' = w := by
 have H := Lib.hid (fun k (hk : k < t.size) => h _ (get_mem hk))
 have hemp := emp_no hne
 clear h hne
 go_enter Tryz.func197, Tryz.ntmps197
 go_wp2_with fail
 go_loopw [6] (fun v wr => ∃ k : Nat, k ≤ t.size ∧ v = .int .i64 (k : Nat) ∧ Hid (wr = w)) (fun v _ => t.size - (intOf v).toNat)
 case atStart => exact ⟨0, by omega, rfl, Lib.hid rfl⟩
 case round =>
  obtain ⟨k, hk, rfl, HW⟩ := hrel
  obtain rfl := HW.out
  by_cases hlt : k < t.size
  · have hki : (k : Int) < t.size := by omega
    have hk0 : (0 : Int) ≤ k := by omega
    obtain ⟨ha1, ha2⟩ := H.out k hlt
    obtain ⟨a, ha⟩ : ∃ a, t[k].toNat = a := ⟨_, rfl⟩
    rw [ha] at ha1 ha2
    have d1 : decide ((a : Int) ≤ 32) = false := decide_eq_false (by omega)
    have d2 : decide ((126 : Int) < (a : Int)) = false := decide_eq_false (by omega)
    go_wp2_with fail
    exact ⟨⟨k + 1, by omega, by go_num, Lib.hid trivial⟩, by simp [intOf]; omega⟩
  · have hki : ¬ ((k : Int) < t.size) := by omega
    go_wp2_with fail
    go_ret
    exact ⟨rfl, rfl⟩
set_option maxHeartbeats 4000000 in
theorem validValue_any (t : ByteArray) (w : World) (h : ∀ c ∈ t.data.toList, 32 ≤ c.toNat ∧ c.toNat ≤ 126) (hs : t.size ≤ 100000) :
 Calls Tryz.prog 198 #[.string t] w fun e w' => e = .returned (.bool true) ∧ w' = w := by
 have H := Lib.hid (fun k (hk : k < t.size) => h _ (get_mem hk))
 clear h
 go_enter Tryz.func198, Tryz.ntmps198
 go_wp2_with fail
 go_loopw [7] (fun v wr => ∃ k : Nat, k ≤ t.size ∧ v = .int .i64 (k : Nat) ∧ Hid (wr = w)) (fun v _ => t.size - (intOf v).toNat)
 case atStart => exact ⟨0, by omega, rfl, Lib.hid rfl⟩
 case round =>
  obtain ⟨k, hk, rfl, HW⟩ := hrel
  obtain rfl := HW.out
  by_cases hlt : k < t.size
  · have hki : (k : Int) < t.size := by omega
    have hk0 : (0 : Int) ≤ k := by omega
    obtain ⟨ha1, ha2⟩ := H.out k hlt
    obtain ⟨a, ha⟩ : ∃ a, t[k].toNat = a := ⟨_, rfl⟩
    rw [ha] at ha1 ha2
    have d1 : decide ((a : Int) < 32) = false := decide_eq_false (by omega)
    have d2 : decide ((126 : Int) < (a : Int)) = false := decide_eq_false (by omega)
    have d3 : ((a : Int) != 9) = true := by simp; omega
    have d4 : ((a : Int) == 9) = false := by simp; omega
    go_wp2_with fail
    exact ⟨⟨k + 1, by omega, by go_num, Lib.hid trivial⟩, by simp [intOf]; omega⟩
  · have hki : ¬ ((k : Int) < t.size) := by omega
    go_wp2_with fail
    go_ret
    exact ⟨rfl, rfl⟩
theorem trim_any (s cs : ByteArray) (w : World) (hs : s.size ≤ 100000) (hcs : cs.size ≤ 100) (ha : (cs.data.toList.all fun b => decide (b.toNat < 128)) = true) :
 Calls Tryz.prog 201 #[.string s, .string cs] w fun e w' => e = .returned (.string ⟨(Lib.trimS s.data.toList cs.data.toList).toArray⟩) ∧ Chg [] w w' :=
 (Any.strings_Trim_laid Tryz.lays160 (by kernel_rfl) s cs w (by omega) (by omega) (fun j b hb => by
  have := List.all_eq_true.1 ha b (List.mem_of_getElem? hb)
  simpa using this)).mono fun e w' ⟨h1, h2⟩ => ⟨h1, Chg.of_below h2⟩
def NB (w : World) (hb : Nat) (x : Int) : Prop := w.heap[hb]? = some (.cells #[.int .i64 x] 222 (0, 0))
theorem NB.c0 {w : World} {hb : Nat} {x : Int} (h : NB w hb x) : w.cell? ⟨hb, 0, none⟩ = some (.int .i64 x) := cell_of_heap h rfl
theorem NB.fz {w : World} {hb : Nat} {x : Int} (h : NB w hb x) : w.frozen? ⟨hb, 0, none⟩ = false := frozen_of_heap (i := 0) h
theorem NB.new {w w' : World} {hb : Nat} {x : Int} (h : NB w hb x) (hc : Chg [] w w') : NB w' hb x := (hc.block hb (lt_of_obj h) (by simp)).trans h
theorem NB.set {w : World} {hb : Nat} {x : Int} (h : NB w hb x) (y : Int) : NB (w.setCell ⟨hb, 0, none⟩ (.int .i64 y)) hb y := by
 unfold NB at h ⊢
 rw [heap_setCell_same h]
 rfl
theorem nb_chg (w : World) (hb : Nat) (u : Value) : Chg [hb] w (w.setCell ⟨hb, 0, none⟩ u) := (Chg.refl [hb] w).setCell (Or.inl (by simp)) _
def dgs (n : Nat) : ByteArray := ⟨(Lib.decDigits n).toArray⟩
theorem dgs_size {n : Nat} (h : n ≤ 4000) : 1 ≤ (dgs n).size ∧ (dgs n).size ≤ 4 := by
 have e : (dgs n).size = (Lib.decDigits n).length := by unfold dgs; simp [ByteArray.size]
 rw [e, Lib.decDigits_length]
 exact ⟨Lib.nDigits_pos n, nDigits_le 3 n (by omega)⟩
set_option maxHeartbeats 4000000 in
theorem setLength_any (hb n : Nat) (w : World) (hn : n ≤ 4000) (h : NB w hb (-1)) :
 Calls Tryz.prog 200 #[.pointer (some ⟨hb, 0, none⟩), .string (dgs n)] w fun e w' => e = .returned (.bool true) ∧ NB w' hb (n : Nat) ∧ Chg [hb] w w' := by
 have H := Lib.hid h
 have c0 := h.c0
 have lb := lt_of_cell c0
 obtain ⟨d1, d2⟩ := dgs_size hn
 have hne : dgs n ≠ ⟨#[]⟩ := fun e => by rw [e] at d1; exact absurd d1 (by decide)
 have hemp := emp_no hne
 have Htr := Lib.hid (trim_any (dgs n) ⟨#[48, 49, 50, 51, 52, 53, 54, 55, 56, 57]⟩ w (by omega) (by decide) (by decide))
 rw [show (dgs n).data.toList = Lib.decDigits n from rfl, show (ByteArray.mk #[48, 49, 50, 51, 52, 53, 54, 55, 56, 57]).data.toList = [48, 49, 50, 51, 52, 53, 54, 55, 56, 57] from rfl, trim_dig] at Htr
 have Hat := Lib.hid (fun W => Tryz.strconv_Atoi (dgs n) (n : Nat) (by omega) (atoi_dig n) W)
 have hs6 : decide ((6 : Int) < (dgs n).size) = false := decide_eq_false (by omega)
 have hn4 : decide ((n : Int) ≤ 4000) = true := decide_eq_true (by omega)
 clear hne
 generalize dgs n = t at hemp Htr Hat hs6 d1 d2
 clear h
 go_enter Tryz.func200, Tryz.ntmps200
 go_wp2_with fail
 refine Htr.out.mono ?_
 rintro e w1 ⟨rfl, hc1⟩
 have H1 := Lib.hid (And.intro (H.out.new hc1) hc1)
 clear hc1
 go_wp2_with fail
 refine (Hat.out w1).mono ?_
 rintro e w2 ⟨rfl, x, rfl⟩
 have hc2 : Chg [] w1 (Lib.bytesWorld w1 5 x) := Chg.of_below (Lib.bytesWorld_below w1 _ x)
 obtain ⟨w2, hw2⟩ : ∃ y, y = Lib.bytesWorld w1 5 x := ⟨_, rfl⟩
 rw [← hw2] at hc2 ⊢
 have H2 := Lib.hid (And.intro (H1.out.1.new hc2) (H1.out.2.trans hc2))
 clear hc2 hw2
 have f2 := H2.out.1.fz
 have c2 := H2.out.1.c0
 have lb2 := lt_of_cell c2
 go_wp2_with fail
 go_ret
 exact ⟨rfl, H2.out.1.set _, (H2.out.2.mono (by simp)).trans (nb_chg _ _ _)⟩
theorem cl_no : ∀ c ∈ cl, c ≠ 58 := by decide
theorem hdl_cut (n : Nat) : Lib.cut (hdl n) [58] = (cl, 32 :: Lib.decDigits n, true) := by
 have h : Lib.index (hdl n) [58] = (cl.length : Nat) := ix_one cl _ 58 cl_no
 unfold Lib.cut
 rw [h, if_pos (by omega)]
 unfold hdl
 rw [Int.toNat_natCast, List.take_left, show cl.length + [(58 : UInt8)].length = cl.length + 1 from rfl, ← List.drop_drop, List.drop_left]
 rfl
def clB : ByteArray := ⟨#[67, 111, 110, 116, 101, 110, 116, 45, 76, 101, 110, 103, 116, 104]⟩
theorem cl_fold : Lib.equalFold cl cl = true := by decide
theorem cl_ascii (j : Nat) (b : UInt8) (h : cl[j]? = some b) : b.toNat < 128 := by
 have hm := List.mem_of_getElem? h
 revert hm
 revert b
 intro b h hm
 have : ∀ c ∈ cl, c.toNat < 128 := by decide
 exact this b hm
set_option maxRecDepth 100000 in
set_option maxHeartbeats 4000000 in
theorem field_any (hb n : Nat) (w : World) (x : ByteArray) (hx : x.data.toList = hdl n) (hn : n ≤ 4000) (h : NB w hb (-1)) (hM : ML w) :
 Calls Tryz.prog 170 #[.pointer (some ⟨hb, 0, none⟩), .string x] w fun e w' => e = .returned (.bool true) ∧ NB w' hb (n : Nat) ∧ Chg [hb] w w' := by
 have H := Lib.hid h
 obtain ⟨m, hm⟩ := hM
 have hl := hdl_len hn
 have hxs : x.size ≤ 20 := by
  have : x.size = x.data.toList.length := rfl
  rw [this, hx]
  exact hl.2
 have Hct := Lib.hid (Tryz.strings_Cut x ⟨#[58]⟩ m w (by omega) hm)
 rw [hx, show (ByteArray.mk #[58]).data.toList = [58] from rfl, hdl_cut] at Hct
 have e1 : (⟨(cl, 32 :: Lib.decDigits n, true).1.toArray⟩ : ByteArray) = clB := rfl
 rw [e1] at Hct
 obtain ⟨v, hv⟩ : ∃ v : ByteArray, v = ⟨(32 :: Lib.decDigits n).toArray⟩ := ⟨_, rfl⟩
 have e2 : (⟨(cl, 32 :: Lib.decDigits n, true).2.1.toArray⟩ : ByteArray) = v := hv.symm
 rw [e2] at Hct
 have hvl : v.data.toList = 32 :: Lib.decDigits n := by rw [hv]
 have hvs : v.size ≤ 5 := by
  have h1 : v.size = v.data.toList.length := rfl
  rw [h1, hvl, List.length_cons]
  have h2 := (dgs_size hn).2
  have h3 : (dgs n).size = (Lib.decDigits n).length := by unfold dgs; simp [ByteArray.size]
  omega
 have Hvn := Lib.hid (fun W => validName_any clB W (by decide) (by decide) (by decide))
 have Hvv := Lib.hid (fun W => validValue_any v W (by
  rw [hvl]
  intro c hc
  rcases List.mem_cons.1 hc with rfl | hc
  · decide
  · have := dig_all n c hc
    omega) (by omega))
 have Hef := Lib.hid (fun W => Tryz.strings_EqualFold clB clB W (by decide) cl_ascii cl_ascii)
 rw [show Lib.equalFold clB.data.toList clB.data.toList = true from cl_fold] at Hef
 have Htr := Lib.hid (fun W => trim_any v ⟨#[32, 9]⟩ W (by omega) (by decide) (by decide))
 rw [hvl, show (ByteArray.mk #[32, 9]).data.toList = [32, 9] from rfl, trim_ws, show (⟨(Lib.decDigits n).toArray⟩ : ByteArray) = dgs n from rfl] at Htr
 have Hsl := Lib.hid (fun W hW => setLength_any hb n W hn hW)
 clear h hx hv hvl hvs hxs hm hl e1 e2
 go_enter Tryz.func170, Tryz.ntmps170
 go_wp2_with fail
 refine Hct.out.mono ?_
 rintro e w1 ⟨rfl, q, rfl⟩
 have hc1 : Chg [] w (w.drewN q) := (Chg.refl _ _).drewN _
 have H1 := Lib.hid (And.intro (H.out.new hc1) hc1)
 obtain ⟨w1, hw1⟩ : ∃ y, y = w.drewN q := ⟨_, rfl⟩
 rw [← hw1] at H1 ⊢
 clear hc1 hw1
 go_wp2_with fail
 refine (Hvn.out w1).mono ?_
 rintro e w2 ⟨rfl, rfl⟩
 go_wp2_with fail
 refine (Hvv.out w2).mono ?_
 rintro e w3 ⟨rfl, rfl⟩
 go_wp2_with fail
 refine (Hef.out w3).mono ?_
 rintro e w4 ⟨rfl, rfl⟩
 go_wp2_with fail
 refine (Htr.out w4).mono ?_
 rintro e w5 ⟨rfl, hc5⟩
 have H5 := Lib.hid (And.intro (H1.out.1.new hc5) (H1.out.2.trans hc5))
 clear hc5
 go_wp2_with fail
 refine (Hsl.out w5 H5.out.1).mono ?_
 rintro e w6 ⟨rfl, hn6, hc6⟩
 have H6 := Lib.hid (And.intro hn6 ((H5.out.2.mono (T := [hb]) (by simp)).trans hc6))
 clear hn6 hc6
 go_wp2_with fail
 go_ret
 exact ⟨rfl, H6.out⟩
theorem ext_drop (s : ByteArray) (o : Nat) : (s.extract o s.size).data.toList = s.data.toList.drop o := by
 rw [Lib.extract_data]
 have hl : s.data.toList.length = s.size := rfl
 first
 | rw [List.take_of_length_le (by rw [List.length_drop, hl]; exact Nat.le_refl _)]
 | rw [List.take_of_length_le (by rw [hl]; exact Nat.le_refl _)]
theorem ext_mid (s : ByteArray) (o q : Nat) : (s.extract o q).data.toList = (s.data.toList.drop o).take (q - o) := Lib.extract_data s o q
theorem ba_ext {s t : ByteArray} (h : s.data.toList = t.data.toList) : s = t := by
 cases s with
 | mk a => cases t with
   | mk b =>
     have : a = b := Array.toList_inj.1 h
     rw [this]
def NxPost (t : ByteArray) (k : Nat) (w : World) (e : Ending) (w' : World) : Prop := e = .returned (.tuple #[.string t, .int .i64 (k : Nat), .int .i64 0]) ∧ Chg [] w w'
set_option maxRecDepth 100000 in
set_option maxHeartbeats 8000000 in
theorem next_none (x : ByteArray) (w : World) (hx : Lib.index x.data.toList [13, 10] = -1) (hs : x.size < 500) (hM : ML w) :
 Calls Tryz.prog 130 #[.string x] w (NxPost ⟨#[]⟩ 0 w) := by
 obtain ⟨w1, hw1⟩ : ∃ y, y = w.alloc (.cells #[.int .i64 (-1)] 222) := ⟨_, rfl⟩
 have hc1 : Chg [] w w1 := by rw [hw1]; exact (Chg.refl _ _).alloc _
 obtain ⟨m, hm⟩ := hM.new hc1
 have Hix := Lib.hid (Tryz.strings_Index x ⟨#[13, 10]⟩ m w1 (by omega) hm)
 rw [show (ByteArray.mk #[13, 10]).data.toList = [13, 10] from rfl, hx] at Hix
 have Hc := Lib.hid hc1
 have hsi : decide ((500 : Int) ≤ x.size) = false := decide_eq_false (by omega)
 clear hc1 hm hx
 go_enter Tryz.func130, Tryz.ntmps130
 go_upto_region 3 with fail
 rw [← hw1]
 clear hw1
 go_loopw [6] (fun v wr => v = .int .i64 0 ∧ Hid (wr = w1)) (fun _ _ => 0)
 case atStart => exact ⟨rfl, Lib.hid rfl⟩
 case round =>
  obtain ⟨rfl, HW⟩ := hrel
  obtain rfl := HW.out
  go_wp2_with fail
  refine Hix.out.mono ?_
  rintro e w2 ⟨rfl, rfl⟩
  go_wp2_with fail
  go_ret3
  exact ⟨rfl, Hc.out⟩
def LnOk (n : Nat) (x y : List UInt8) (t : ByteArray) (k : Nat) : Prop :=
 ((y = [] ∨ y = [13]) ∧ x.length < 500 ∧ t = ⟨#[]⟩ ∧ k = 0) ∨
 (∃ r, y = 13 :: 10 :: r ∧ r.length < n ∧ t = ⟨#[]⟩ ∧ k = 0) ∨
 (∃ r, y = 13 :: 10 :: r ∧ n ≤ r.length ∧ t = ⟨(r.take n).toArray⟩ ∧ k = (hdl n).length + 4 + n)
set_option maxRecDepth 100000 in
set_option maxHeartbeats 8000000 in
theorem next_line (x : ByteArray) (n : Nat) (y : List UInt8) (t : ByteArray) (k : Nat) (w : World) (hx : x.data.toList = hdl n ++ 13 :: 10 :: y) (hn : n ≤ 4000) (hs : x.size ≤ 1000000) (hM : ML w) (hy : LnOk n x.data.toList y t k) :
 Calls Tryz.prog 130 #[.string x] w (NxPost t k w) := by
 obtain ⟨hb, hhb⟩ : ∃ b, b = w.heap.size := ⟨_, rfl⟩
 obtain ⟨w1, hw1⟩ : ∃ y, y = w.alloc (.cells #[.int .i64 (-1)] 222) := ⟨_, rfl⟩
 have hc1 : Chg [] w w1 := by rw [hw1]; exact (Chg.refl _ _).alloc _
 have h1 : NB w1 hb (-1) := by rw [hw1, hhb]; exact heap_at _ _ _ rfl
 have hb0 : 0 < hb := by
  obtain ⟨m, hm⟩ := hM
  have := lt_of_cell hm
  omega
 obtain ⟨H, hH⟩ : ∃ H, H = (hdl n).length := ⟨_, rfl⟩
 have hHl := hdl_len hn
 rw [← hH] at hHl
 have hsz : x.size = H + 2 + y.length := by
  have e : x.size = x.data.toList.length := rfl
  rw [e, hx, List.length_append, List.length_cons, List.length_cons]
  omega
 have Hix := Lib.hid (fun (o : Nat) (W : World) (hW : ML W) => (by
  obtain ⟨m, hm⟩ := hW
  have h := Tryz.strings_Index (x.extract o x.size) ⟨#[13, 10]⟩ m W (by rw [ByteArray.size_extract]; omega) hm
  rw [ext_drop, show (ByteArray.mk #[13, 10]).data.toList = [13, 10] from rfl] at h
  exact h : Calls Tryz.prog 158 #[.string (x.extract o x.size), .string ⟨#[13, 10]⟩] W fun e w' => e = .returned (.int .i64 (Lib.index (x.data.toList.drop o) [13, 10])) ∧ w' = W))
 have Hfl := Lib.hid (fun (W : World) (hW : ML W) (hN : NB W hb (-1)) => field_any hb n W (x.extract 0 H) (by rw [ext_mid, List.drop_zero, hx, hH, Nat.sub_zero, List.take_left]) hn hN hW)
 have HM := Lib.hid (fun W (hc : Chg [] w W) => hM.new hc)
 have Hx := Lib.hid hx
 have HH := Lib.hid hH
 have Hy := Lib.hid hy
 have H1 : Hid (NB w1 hb (-1) ∧ Chg [] w w1) := Lib.hid ⟨h1, hc1⟩
 have Hb := Lib.hid (And.intro hhb hb0)
 have Hsz := Lib.hid hsz
 clear hx hM hH hy h1 hc1 hb0 hsz
 go_enter Tryz.func130, Tryz.ntmps130
 go_upto_region 3 with fail
 rw [← hw1, ← hhb]
 clear hw1 hhb
 go_loopw [6] (fun v wr => ∃ (o : Nat) (hv : Int), v = .int .i64 (o : Nat) ∧ Hid (NB wr hb hv ∧ Chg [] w wr) ∧ Hid ((o = 0 ∧ hv = -1) ∨ (o = H + 2 ∧ hv = n))) (fun v _ => x.size - (intOf v).toNat)
 case atStart => exact ⟨0, -1, rfl, H1, Lib.hid (Or.inl ⟨rfl, rfl⟩)⟩
 case round =>
  obtain ⟨o, hv, rfl, HR, HO⟩ := hrel
  have hox : (o : Int) ≤ x.size := by
   have := Hsz.out
   rcases HO.out with ⟨h, _⟩ | ⟨h, _⟩ <;> omega
  have ho0 : (0 : Int) ≤ o := by omega
  go_wp2_with fail
  refine (Hix.out o wr (HM.out wr HR.out.2)).mono ?_
  rintro e w2 ⟨rfl, rfl⟩
  rcases HO.out with ⟨rfl, rfl⟩ | ⟨rfl, rfl⟩
  · have hi : Lib.index (x.data.toList.drop 0) [13, 10] = (H : Nat) := by rw [List.drop_zero, Hx.out, HH.out]; exact ix_crlf _ _ (hdl_no n)
    rw [hi]
    have hHx : (H : Int) ≤ x.size := by have := Hsz.out; omega
    have hHy : (H : Int) + 2 ≤ x.size := by have := Hsz.out; omega
    have hln : (x.extract 0 H).toList.isEmpty = false := emp_no (fun e => by
     have h := congrArg ByteArray.size e
     rw [ByteArray.size_extract] at h
     have : (ByteArray.mk #[]).size = 0 := rfl
     omega)
    clear hi
    go_wp2_with fail
    refine (Hfl.out w2 (HM.out w2 HR.out.2) HR.out.1).mono ?_
    rintro e w3 ⟨rfl, hn3, hc3⟩
    have H3 : Hid (NB w3 hb (n : Nat) ∧ Chg [] w w3) := Lib.hid ⟨hn3, HR.out.2.comp hc3 fun g hg => Or.inr (by have := List.mem_singleton.1 hg; have := Hb.out.1; omega)⟩
    clear hn3 hc3
    go_wp2_with fail
    exact ⟨⟨H + 2, n, by go_num, H3, Lib.hid (Or.inr ⟨rfl, rfl⟩)⟩, by simp [intOf]; omega⟩
  · have hdr : x.data.toList.drop (H + 2) = y := by rw [← List.drop_drop, Hx.out, HH.out, List.drop_left]; rfl
    rw [hdr]
    have c0 := HR.out.1.c0
    have lb := lt_of_cell c0
    rcases Hy.out with ⟨hy, hl5, rfl, rfl⟩ | ⟨r, hy, hr, rfl, rfl⟩ | ⟨r, hy, hr, rfl, rfl⟩
    · have hi : Lib.index y [13, 10] = -1 := by rcases hy with h | h <;> rw [h] <;> decide
      have hsi : decide ((500 : Int) ≤ x.size) = false := decide_eq_false (by
       have : x.data.toList.length = x.size := rfl
       omega)
      rw [hi]
      clear hi hy hl5
      go_wp2_with fail
      go_ret3
      exact ⟨rfl, HR.out.2⟩
    · have hi : Lib.index y [13, 10] = (0 : Nat) := by rw [hy]; simp [Lib.index, List.isPrefixOf]
      have hyl : y.length = r.length + 2 := by rw [hy]; rfl
      have hH2 : (H : Int) + 2 ≤ x.size := by have := Hsz.out; omega
      have hH4 : (H : Int) + 4 ≤ x.size := by have := Hsz.out; omega
      have hxr : decide ((x.size : Int) - ((H : Int) + 2 + 2) < n) = true := decide_eq_true (by have := Hsz.out; omega)
      rw [hi]
      clear hi hy hr hyl hdr
      go_wp2_with fail
      go_ret3
      exact ⟨rfl, HR.out.2⟩
    · have hi : Lib.index y [13, 10] = (0 : Nat) := by rw [hy]; simp [Lib.index, List.isPrefixOf]
      have hyl : y.length = r.length + 2 := by rw [hy]; rfl
      have hH2 : (H : Int) + 2 ≤ x.size := by have := Hsz.out; omega
      have hH4 : (H : Int) + 4 + n ≤ x.size := by have := Hsz.out; omega
      have hxr : decide ((x.size : Int) - ((H : Int) + 2 + 2) < n) = false := decide_eq_false (by have := Hsz.out; omega)
      rw [hi]
      have Hxd : Hid (x.extract (H + 4) (H + 4 + n) = ⟨(r.take n).toArray⟩) := Lib.hid (ba_ext (by
       rw [ext_mid, show H + 4 + n - (H + 4) = n by omega, show H + 4 = H + 2 + 2 by omega, ← List.drop_drop, hdr, hy]
       rfl))
      clear hi hy hr hyl hdr
      go_upto_region 18 with fail
      go_quiet (fail)
      go_wp2_with fail
      go_ret3
      refine ⟨?_, HR.out.2.drewN _⟩
      have e1 : x.extract (H + 2 + 2) (H + 2 + 2 + n) = ⟨(r.take n).toArray⟩ := Hxd.out
      have e2 : (H : Int) + 2 + 2 + n = (((hdl n).length + 4 + n : Nat) : Int) := by have := HH.out; omega
      show Ending.returned (.tuple #[.string (x.extract (H + 2 + 2) (H + 2 + 2 + n)), .int .i64 ((H : Int) + 2 + 2 + n), .int .i64 0]) = _
      rw [e1, e2]
theorem next_part (x : ByteArray) (n : Nat) (w : World) (hn : n ≤ 4000) (hs : x.size ≤ 1000000) (hM : ML w) (h : Pt n x.data.toList) : Calls Tryz.prog 130 #[.string x] w (NxPost ⟨#[]⟩ 0 w) := by
 have hl := hdl_len hn
 have hz : x.data.toList.length = x.size := rfl
 rcases h with ⟨h1, h2⟩ | h | h | h | ⟨r, h, hr⟩
 · exact next_none x w (ix_none _ h1) (by omega) hM
 · refine next_none x w (by rw [h]; exact ix_none1 _ (hdl_no n)) ?_ hM
   rw [h, List.length_append, List.length_singleton] at hz
   omega
 · exact next_line x n [] _ _ w h hn hs hM (Or.inl ⟨Or.inl rfl, by rw [h]; simp; omega, rfl, rfl⟩)
 · exact next_line x n [13] _ _ w h hn hs hM (Or.inl ⟨Or.inr rfl, by rw [h]; simp; omega, rfl, rfl⟩)
 · exact next_line x n _ _ _ w h hn hs hM (Or.inr (Or.inl ⟨r, rfl, hr, rfl, rfl⟩))
theorem next_full (x b : ByteArray) (r : List UInt8) (w : World) (hb : b.size ≤ 4000) (hs : x.size ≤ 1000000) (hM : ML w) (h : x.data.toList = frame b ++ r) : Calls Tryz.prog 130 #[.string x] w (NxPost b (frame b).length w) := by
 refine next_line x b.size (13 :: 10 :: (b.data.toList ++ r)) b _ w (by rw [h]; unfold frame; simp) hb hs hM (Or.inr (Or.inr ⟨b.data.toList ++ r, rfl, ?_, ?_, frame_len b⟩))
 · rw [List.length_append]
   have : b.data.toList.length = b.size := rfl
   omega
 · have e : b.size = b.data.toList.length := rfl
   rw [e, List.take_left]
def P10 (w : World) : Prop := Lib.TabIs Tryz.prog w "internal/strconv.uint64pow10" .u64 Lib.pow10Tab
theorem p10_named : Tryz.prog.globalNamed "internal/strconv.uint64pow10" = some 3 := by kernel_rfl
theorem P10.lt {w : World} (h : P10 w) : 3 < w.heap.size := by
 unfold P10 Lib.TabIs World.var? at h
 rw [p10_named, Option.bind_some] at h
 split at h
 · rename_i hb; exact lt_of_obj hb
 · cases h
theorem P10.kept {w w' : World} {S : Nat → Prop} (h : P10 w) (hc : ChgP S w w') (hS : ¬ S 3) : P10 w' := by
 have hl := h.lt
 unfold P10 Lib.TabIs World.var? at h ⊢
 rw [p10_named, Option.bind_some] at h ⊢
 rw [hc.block 3 hl hS]
 exact h
theorem chg_grow {w w' : World} (h : ∃ k os, w' = Go.Sort.grow (w.drewN k) os) : Chg [] w w' := by
 obtain ⟨k, os, rfl⟩ := h
 refine ⟨rfl, rfl, rfl, by simp [Go.Sort.grow, World.drewN], fun i hi _ => ?_⟩
 show (w.heap ++ os)[i]? = w.heap[i]?
 rw [Array.getElem?_append_left hi]
theorem itoa_any (n : Nat) (w : World) (h1 : n ≤ 4000) (hP : P10 w) : Calls Tryz.prog 79 #[.int .i64 (n : Nat)] w fun e w' => e = .returned (.string (dgs n)) ∧ Chg [] w w' :=
 (Tryz.strconv_Itoa (n : Nat) (by omega) (by omega) w hP).mono fun e w' ⟨h1, h2⟩ => ⟨by rw [h1, itoa_dig]; rfl, chg_grow h2⟩
def frB (b : ByteArray) : ByteArray := ⟨(frame b).toArray⟩
theorem frB_list (b : ByteArray) : (frB b).data.toList = frame b := rfl
theorem frB_size (b : ByteArray) : (frB b).size = (frame b).length := by
 show (frB b).data.toList.length = _
 rw [frB_list]
def EnPost (b : ByteArray) (w : World) (e : Ending) (w' : World) : Prop := (if b.size ≤ 4000 then e = .returned (.tuple #[.string (frB b), .int .i64 0]) else e = .returned (.tuple #[.string ⟨#[]⟩, .int .i64 2])) ∧ Chg [] w w'
set_option maxRecDepth 100000 in
set_option maxHeartbeats 4000000 in
theorem encode_any (b : ByteArray) (w : World) (hP : P10 w) :
 Calls Tryz.prog 43 #[.string b] w (EnPost b w) := by
 by_cases hs : b.size ≤ 4000
 · have hd : decide ((4000 : Int) < b.size) = false := decide_eq_false (by omega)
   have hi := itoa_any b.size w hs hP
   obtain ⟨d, hdd⟩ : ∃ d, d = dgs b.size := ⟨_, rfl⟩
   rw [← hdd] at hi
   have Hi := Lib.hid hi
   have Hd := Lib.hid hdd
   have hds : d.size ≤ 4 := by rw [hdd]; exact (dgs_size hs).2
   have Hs := Lib.hid hs
   clear hi hP hdd
   go_enter Tryz.func43, Tryz.ntmps43
   go_wp2_with fail
   refine Hi.out.mono ?_
   rintro e w1 ⟨rfl, hc1⟩
   have Hc := Lib.hid hc1
   clear hc1
   go_wp2_with fail
   go_ret2
   refine ⟨?_, Hc.out⟩
   rw [if_pos Hs.out]
   have e1 : (⟨#[67, 111, 110, 116, 101, 110, 116, 45, 76, 101, 110, 103, 116, 104, 58, 32]⟩ ++ d ++ ⟨#[13, 10]⟩ ++ ⟨#[13, 10]⟩ ++ b : ByteArray) = frB b := ba_ext (by
    rw [frB_list, Hd.out]
    unfold frame hdl cl dgs
    simp [ByteArray.data_append])
   show Ending.returned (.tuple #[.string (⟨#[67, 111, 110, 116, 101, 110, 116, 45, 76, 101, 110, 103, 116, 104, 58, 32]⟩ ++ d ++ ⟨#[13, 10]⟩ ++ ⟨#[13, 10]⟩ ++ b), .int .i64 0]) = _
   rw [e1]
 · have hd : decide ((4000 : Int) < b.size) = true := decide_eq_true (by omega)
   have Hs := Lib.hid hs
   clear hs
   go_enter Tryz.func43, Tryz.ntmps43
   go_wp2_with fail
   go_ret2
   exact ⟨by rw [if_neg Hs.out]; rfl, Chg.refl _ _⟩
def SpPost (L : List ByteArray) (x : ByteArray) (w : World) (e : Ending) (w' : World) : Prop :=
 ∃ (k q : Nat) (a : Option Addr) (cap : Nat), e = .returned (.tuple #[.slice a k cap, .int .i64 (q : Nat), .int .i64 0]) ∧ k ≤ L.length ∧ q = (flat (L.take k)).length ∧ q ≤ x.size ∧ (∀ hk : k < L.length, x.size < q + (frame L[k]).length) ∧ OwnS w' w.heap.size (.slice a k cap) (L.take k) ∧ Chg [] w w'
set_option maxRecDepth 100000 in
set_option maxHeartbeats 8000000 in
theorem split_any (L : List ByteArray) (x : ByteArray) (u : List UInt8) (w : World) (hL : L.length ≤ 100) (hb : ∀ b ∈ L, b.size ≤ 4000) (hx : x.data.toList ++ u = flat L) (hs : x.size ≤ 1000000) (hM : ML w) :
 Calls Tryz.prog 80 #[.string x] w (SpPost L x w) := by
 have HM := Lib.hid (fun W (hc : Chg [] w W) => hM.new hc)
 have HX := Lib.hid hx
 have HB := Lib.hid hb
 have hsl : x.data.toList.length = x.size := rfl
 have Hsl := Lib.hid hsl
 clear hx hb hM hsl
 go_enter Tryz.func80, Tryz.ntmps80
 go_wp2_with fail
 go_loopw [5, 6] (fun vb vo wr => ∃ (k q : Nat) (a : Option Addr) (cap : Nat), vb = .slice a k cap ∧ vo = .int .i64 (q : Nat) ∧ k ≤ L.length ∧ q ≤ x.size ∧ Hid (q = (flat (L.take k)).length ∧ x.data.toList.drop q ++ u = flat (L.drop k)) ∧ Hid (OwnS wr w.heap.size (.slice a k cap) (L.take k) ∧ Chg [] w wr)) (fun _ vo _ => x.size - (intOf vo).toNat)
 case atStart => exact ⟨0, 0, none, 0, rfl, rfl, by omega, by omega, Lib.hid ⟨rfl, by rw [List.drop_zero]; exact HX.out⟩, Lib.hid ⟨OwnS.nil _ _, Chg.refl _ _⟩⟩
 case round =>
  obtain ⟨k, q, a, cap, rfl, rfl, hk, hq, HQ, HR⟩ := hrel
  have hqi : (q : Int) ≤ x.size := by omega
  have hq0 : (0 : Int) ≤ q := by omega
  have hes : (x.extract q x.size).size ≤ 1000000 := by rw [ByteArray.size_extract]; omega
  by_cases hkL : k < L.length
  · have hfl := flat_take hkL
    have hbk := HB.out L[k] (List.getElem_mem hkL)
    rcases flat_head (b := L[k]) (L := L.drop (k + 1)) (x := x.data.toList.drop q) (u := u) (by rw [HQ.out.2, hfl, flat_cons]) with ⟨y, hy, hy2⟩ | ⟨hlt, hpt⟩
    · have Hn := Lib.hid (next_full (x.extract q x.size) L[k] y wr hbk hes (HM.out wr HR.out.2) (by rw [ext_drop]; exact hy))
      have hfp : 21 ≤ (frame L[k]).length := by rw [frame_len]; have := hdl_len hbk; omega
      have htk : L.take (k + 1) = L.take k ++ [L[k]] := by rw [List.take_add_one, List.getElem?_eq_getElem hkL]; rfl
      have hfn := flat_len hkL
      generalize L[k] = b at Hn hy hfp htk hfn
      obtain ⟨f, hf⟩ : ∃ f, f = (frame b).length := ⟨_, rfl⟩
      unfold NxPost at Hn
      rw [← hf] at Hn hfp hfn
      have hqf : q + f ≤ x.size := by
       have h1 := congrArg List.length hy
       have h2 : x.data.toList.length = x.size := rfl
       rw [List.length_drop, List.length_append] at h1
       omega
      have HN : Hid (q + f = (flat (L.take (k + 1))).length ∧ x.data.toList.drop (q + f) ++ u = flat (L.drop (k + 1))) := Lib.hid ⟨by rw [hfn, ← HQ.out.1], by rw [← List.drop_drop, hy, hf, List.drop_left]; exact hy2⟩
      have Htk := Lib.hid htk
      have hf0 : ((f : Int) == 0) = false := by simp; omega
      have hf1 : (f == 0) = false := by simp; omega
      have Hf := Lib.hid hfp
      clear hfl hbk hy hy2 htk hfn hf hfp
      go_wp2_with fail
      refine Hn.out.mono ?_
      rintro e w2 ⟨rfl, hc2⟩
      have H2 : Hid (OwnS w2 w.heap.size (.slice a k cap) (L.take k) ∧ Chg [] w w2) := Lib.hid ⟨HR.out.1.same hc2, HR.out.2.trans hc2⟩
      clear hc2
      obtain ⟨w3, hw3⟩ : ∃ y, y = w2.alloc (.cells #[.string b] 9) := ⟨_, rfl⟩
      obtain ⟨g3, hg3⟩ : ∃ y, y = w2.heap.size := ⟨_, rfl⟩
      have hc3 : Chg [] w2 w3 := by rw [hw3]; exact (Chg.refl _ _).alloc _
      have hb3 : w3.heap[g3]? = some (.cells #[.string b] 9 (0, 0)) := by rw [hw3, hg3]; exact heap_at _ _ _ rfl
      obtain ⟨v4, w4, hr4, ho4, hc4⟩ := run_append_strs w3 22 w.heap.size (fun g => g = g3) (.slice a k cap) (.slice (some ⟨g3, 0, none⟩) 1 1) (L.take k) [b] (H2.out.1.same hc3) (str1_at hb3) (by rw [List.length_take, List.length_singleton]; omega) (Nat.le_trans H2.out.2.size hc3.size)
      have hsh := ownsRow_shape ho4
      rw [← Htk.out, List.length_take, Nat.min_eq_left (by omega)] at hsh
      obtain ⟨a4, c4, rfl⟩ := hsh
      rw [← Htk.out] at ho4
      have H4 : Hid (OwnS w4 w.heap.size (.slice a4 (k + 1) c4) (L.take (k + 1)) ∧ Chg [] w w4) := Lib.hid ⟨ho4, (H2.out.2.trans hc3).comp hc4 fun g hg => Or.inr (by
       have hg' : (Value.slice a k cap).ownBlock = some g := by simpa using hg
       exact (ownsRow_ge H2.out.1 hg').1)⟩
      have HW3 := Lib.hid (And.intro hw3 hg3)
      have Hr4 := Lib.hid hr4
      clear hc3 hb3 ho4 hc4 hw3 hg3 hr4
      go_wp2_with (at_builtin; rw [← HW3.out.1, ← HW3.out.2]; refine wpList_append_run rfl _ _ _ rfl _ _ _ _ rfl rfl Hr4.out ?_)
      refine ⟨⟨k + 1, q + f, a4, c4, rfl, by go_num, by omega, hqf, HN, H4⟩, ?_⟩
      have := Hf.out
      simp [intOf]
      omega
    · have hpp : Pt L[k].size (x.extract q x.size).data.toList := by
       rw [ext_drop, hpt]
       exact part_pt hbk hlt
      have Hn := Lib.hid (next_part (x.extract q x.size) L[k].size wr hbk hes (HM.out wr HR.out.2) hpp)
      have Hlt : Hid (∀ hk : k < L.length, x.size < q + (frame L[k]).length) := Lib.hid (fun _ => by
       have h2 : x.data.toList.length = x.size := rfl
       rw [List.length_drop] at hlt
       omega)
      clear hfl hbk hlt hpt hpp
      unfold NxPost at Hn
      go_wp2_with fail
      refine Hn.out.mono ?_
      rintro e w2 ⟨rfl, hc2⟩
      have H2 : Hid (OwnS w2 w.heap.size (.slice a k cap) (L.take k) ∧ Chg [] w w2) := Lib.hid ⟨HR.out.1.same hc2, HR.out.2.trans hc2⟩
      clear hc2
      go_wp2_with fail
      go_ret3
      exact ⟨k, q, a, cap, rfl, hk, HQ.out.1, hq, Hlt.out, H2.out⟩
  · have hnil : x.data.toList.drop q = [] := by
     have h1 := HQ.out.2
     rw [List.drop_of_length_le (show L.length ≤ k by omega)] at h1
     exact (List.append_eq_nil_iff.1 h1).1
    have Hn := Lib.hid (next_part (x.extract q x.size) 0 wr (by omega) hes (HM.out wr HR.out.2) (by rw [ext_drop, hnil]; exact pt_nil 0))
    unfold NxPost at Hn
    have Hk := Lib.hid hkL
    clear hnil
    go_wp2_with fail
    refine Hn.out.mono ?_
    rintro e w2 ⟨rfl, hc2⟩
    have H2 : Hid (OwnS w2 w.heap.size (.slice a k cap) (L.take k) ∧ Chg [] w w2) := Lib.hid ⟨HR.out.1.same hc2, HR.out.2.trans hc2⟩
    clear hc2
    go_wp2_with fail
    go_ret3
    exact ⟨k, q, a, cap, rfl, hk, HQ.out.1, hq, fun h => absurd h Hk.out, H2.out⟩
end Go.Proofs.YtjlknaahpjiibaaGreatDoor.Fr
