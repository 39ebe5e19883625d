/- Frames: Next. -/
import Derived.Test.YtjcalbjblbbinaaDoorFrB
import Derived.OwnWalk
namespace Go.Proofs.YtjcalbjblbbinaaDoor
open Go.RowKit Go.ChangeMaps Go.MapKept
set_option linter.unusedVariables false
set_option linter.unusedSimpArgs false
theorem ext_drop (s : ByteArray) (o : Nat) : (s.extract o s.size).data.toList = s.data.toList.drop o := by
  rw [Lib.extract_data]
  have hl : s.data.toList.length = s.size := rfl
  first
  | rw [List.take_of_length_le (by rw [List.length_drop, hl]; exact Nat.le_refl _)]
  | rw [List.take_of_length_le (by rw [hl]; exact Nat.le_refl _)]
theorem ext_mid (s : ByteArray) (o q : Nat) : (s.extract o q).data.toList = (s.data.toList.drop o).take (q - o) := Lib.extract_data s o q
theorem ba_ext {s t : ByteArray} (h : s.data.toList = t.data.toList) : s = t := by
  cases s with
  | mk a => cases t with
    | mk b =>
      have : a = b := Array.toList_inj.1 h
      rw [this]
def NxPost (t : ByteArray) (k : Nat) (w : World) (e : Ending) (w' : World) : Prop := e = .returned (.tuple #[.string t, .int .i64 (k : Nat), .int .i64 0]) ∧ Chg [] w w'
set_option maxRecDepth 100000 in
set_option maxHeartbeats 8000000 in
theorem next_none (x : ByteArray) (w : World) (hx : Lib.index x.data.toList [13, 10] = -1) (hs : x.size < 500) (hM : ML w) :
    Calls Tryd.prog 10 #[.string x] w (NxPost ⟨#[]⟩ 0 w) := by
  obtain ⟨w1, hw1⟩ : ∃ y, y = w.alloc (.cells #[.int .i64 (-1)] 46) := ⟨_, rfl⟩
  have hc1 : Chg [] w w1 := by rw [hw1]; exact (Chg.refl _ _).alloc _
  obtain ⟨m, hm⟩ := hM.new hc1
  have Hix := Lib.hid (Tryd.strings_Index x ⟨#[13, 10]⟩ m w1 (by omega) hm)
  rw [show (ByteArray.mk #[13, 10]).data.toList = [13, 10] from rfl, hx] at Hix
  have Hc := Lib.hid hc1
  have hsi : decide ((500 : Int) ≤ x.size) = false := decide_eq_false (by omega)
  clear hc1 hm hx
  go_enter Tryd.func10, Tryd.ntmps10
  go_upto_region 3 with fail
  rw [← hw1]
  clear hw1
  go_loopw [6] (fun v wr => v = .int .i64 0 ∧ Hid (wr = w1)) (fun _ _ => 0)
  case atStart => exact ⟨rfl, Lib.hid rfl⟩
  case round =>
    obtain ⟨rfl, HW⟩ := hrel
    obtain rfl := HW.out
    go_wp2_with fail
    refine Hix.out.mono ?_
    rintro e w2 ⟨rfl, rfl⟩
    go_wp2_with fail
    go_ret3
    exact ⟨rfl, Hc.out⟩
/-- what Next answers behind the header's line: the rest is y -/
def LnOk (n : Nat) (x y : List UInt8) (t : ByteArray) (k : Nat) : Prop :=
  ((y = [] ∨ y = [13]) ∧ x.length < 500 ∧ t = ⟨#[]⟩ ∧ k = 0) ∨
  (∃ r, y = 13 :: 10 :: r ∧ r.length < n ∧ t = ⟨#[]⟩ ∧ k = 0) ∨
  (∃ r, y = 13 :: 10 :: r ∧ n ≤ r.length ∧ t = ⟨(r.take n).toArray⟩ ∧ k = (hdl n).length + 4 + n)
set_option maxRecDepth 100000 in
set_option maxHeartbeats 8000000 in
theorem next_line (x : ByteArray) (n : Nat) (y : List UInt8) (t : ByteArray) (k : Nat) (w : World) (hx : x.data.toList = hdl n ++ 13 :: 10 :: y) (hn : n ≤ 4000) (hs : x.size ≤ 1000000) (hM : ML w) (hy : LnOk n x.data.toList y t k) :
    Calls Tryd.prog 10 #[.string x] w (NxPost t k w) := by
  obtain ⟨hb, hhb⟩ : ∃ b, b = w.heap.size := ⟨_, rfl⟩
  obtain ⟨w1, hw1⟩ : ∃ y, y = w.alloc (.cells #[.int .i64 (-1)] 46) := ⟨_, rfl⟩
  have hc1 : Chg [] w w1 := by rw [hw1]; exact (Chg.refl _ _).alloc _
  have h1 : NB w1 hb (-1) := by rw [hw1, hhb]; exact heap_at _ _ _ rfl
  have hb0 : 0 < hb := by
    obtain ⟨m, hm⟩ := hM
    have := lt_of_cell hm
    omega
  obtain ⟨H, hH⟩ : ∃ H, H = (hdl n).length := ⟨_, rfl⟩
  have hHl := hdl_len hn
  rw [← hH] at hHl
  have hsz : x.size = H + 2 + y.length := by
    have e : x.size = x.data.toList.length := rfl
    rw [e, hx, List.length_append, List.length_cons, List.length_cons]
    omega
  have Hix := Lib.hid (fun (o : Nat) (W : World) (hW : ML W) => (by
    obtain ⟨m, hm⟩ := hW
    have h := Tryd.strings_Index (x.extract o x.size) ⟨#[13, 10]⟩ m W (by rw [ByteArray.size_extract]; omega) hm
    rw [ext_drop, show (ByteArray.mk #[13, 10]).data.toList = [13, 10] from rfl] at h
    exact h : Calls Tryd.prog 16 #[.string (x.extract o x.size), .string ⟨#[13, 10]⟩] W fun e w' => e = .returned (.int .i64 (Lib.index (x.data.toList.drop o) [13, 10])) ∧ w' = W))
  have Hfl := Lib.hid (fun (W : World) (hW : ML W) (hN : NB W hb (-1)) => field_any hb n W (x.extract 0 H) (by rw [ext_mid, List.drop_zero, hx, hH, Nat.sub_zero, List.take_left]) hn hN hW)
  have HM := Lib.hid (fun W (hc : Chg [] w W) => hM.new hc)
  have Hx := Lib.hid hx
  have HH := Lib.hid hH
  have Hy := Lib.hid hy
  have H1 : Hid (NB w1 hb (-1) ∧ Chg [] w w1) := Lib.hid ⟨h1, hc1⟩
  have Hb := Lib.hid (And.intro hhb hb0)
  have Hsz := Lib.hid hsz
  clear hx hM hH hy h1 hc1 hb0 hsz
  go_enter Tryd.func10, Tryd.ntmps10
  go_upto_region 3 with fail
  rw [← hw1, ← hhb]
  clear hw1 hhb
  go_loopw [6] (fun v wr => ∃ (o : Nat) (hv : Int), v = .int .i64 (o : Nat) ∧ Hid (NB wr hb hv ∧ Chg [] w wr) ∧ Hid ((o = 0 ∧ hv = -1) ∨ (o = H + 2 ∧ hv = n))) (fun v _ => x.size - (intOf v).toNat)
  case atStart => exact ⟨0, -1, rfl, H1, Lib.hid (Or.inl ⟨rfl, rfl⟩)⟩
  case round =>
    obtain ⟨o, hv, rfl, HR, HO⟩ := hrel
    have hox : (o : Int) ≤ x.size := by
      have := Hsz.out
      rcases HO.out with ⟨h, _⟩ | ⟨h, _⟩ <;> omega
    have ho0 : (0 : Int) ≤ o := by omega
    go_wp2_with fail
    refine (Hix.out o wr (HM.out wr HR.out.2)).mono ?_
    rintro e w2 ⟨rfl, rfl⟩
    rcases HO.out with ⟨rfl, rfl⟩ | ⟨rfl, rfl⟩
    · have hi : Lib.index (x.data.toList.drop 0) [13, 10] = (H : Nat) := by rw [List.drop_zero, Hx.out, HH.out]; exact ix_crlf _ _ (hdl_no n)
      rw [hi]
      have hHx : (H : Int) ≤ x.size := by have := Hsz.out; omega
      have hHy : (H : Int) + 2 ≤ x.size := by have := Hsz.out; omega
      have hln : (x.extract 0 H).toList.isEmpty = false := emp_no (fun e => by
        have h := congrArg ByteArray.size e
        rw [ByteArray.size_extract] at h
        have : (ByteArray.mk #[]).size = 0 := rfl
        omega)
      clear hi
      go_wp2_with fail
      refine (Hfl.out w2 (HM.out w2 HR.out.2) HR.out.1).mono ?_
      rintro e w3 ⟨rfl, hn3, hc3⟩
      have H3 : Hid (NB w3 hb (n : Nat) ∧ Chg [] w w3) := Lib.hid ⟨hn3, HR.out.2.comp hc3 fun g hg => Or.inr (by have := List.mem_singleton.1 hg; have := Hb.out.1; omega)⟩
      clear hn3 hc3
      go_wp2_with fail
      exact ⟨⟨H + 2, n, by go_num, H3, Lib.hid (Or.inr ⟨rfl, rfl⟩)⟩, by simp [intOf]; omega⟩
    · have hdr : x.data.toList.drop (H + 2) = y := by rw [← List.drop_drop, Hx.out, HH.out, List.drop_left]; rfl
      rw [hdr]
      have c0 := HR.out.1.c0
      have lb := lt_of_cell c0
      rcases Hy.out with ⟨hy, hl5, rfl, rfl⟩ | ⟨r, hy, hr, rfl, rfl⟩ | ⟨r, hy, hr, rfl, rfl⟩
      · have hi : Lib.index y [13, 10] = -1 := by rcases hy with h | h <;> rw [h] <;> decide
        have hsi : decide ((500 : Int) ≤ x.size) = false := decide_eq_false (by
          have : x.data.toList.length = x.size := rfl
          omega)
        rw [hi]
        clear hi hy hl5
        go_wp2_with fail
        go_ret3
        exact ⟨rfl, HR.out.2⟩
      · have hi : Lib.index y [13, 10] = (0 : Nat) := by rw [hy]; simp [Lib.index, List.isPrefixOf]
        have hyl : y.length = r.length + 2 := by rw [hy]; rfl
        have hH2 : (H : Int) + 2 ≤ x.size := by have := Hsz.out; omega
        have hH4 : (H : Int) + 4 ≤ x.size := by have := Hsz.out; omega
        have hxr : decide ((x.size : Int) - ((H : Int) + 2 + 2) < n) = true := decide_eq_true (by have := Hsz.out; omega)
        rw [hi]
        clear hi hy hr hyl hdr
        go_wp2_with fail
        go_ret3
        exact ⟨rfl, HR.out.2⟩
      · have hi : Lib.index y [13, 10] = (0 : Nat) := by rw [hy]; simp [Lib.index, List.isPrefixOf]
        have hyl : y.length = r.length + 2 := by rw [hy]; rfl
        have hH2 : (H : Int) + 2 ≤ x.size := by have := Hsz.out; omega
        have hH4 : (H : Int) + 4 + n ≤ x.size := by have := Hsz.out; omega
        have hxr : decide ((x.size : Int) - ((H : Int) + 2 + 2) < n) = false := decide_eq_false (by have := Hsz.out; omega)
        rw [hi]
        have Hxd : Hid (x.extract (H + 4) (H + 4 + n) = ⟨(r.take n).toArray⟩) := Lib.hid (ba_ext (by
          rw [ext_mid, show H + 4 + n - (H + 4) = n by omega, show H + 4 = H + 2 + 2 by omega, ← List.drop_drop, hdr, hy]
          rfl))
        clear hi hy hr hyl hdr
        go_upto_region 18 with fail
        go_quiet (fail)
        go_wp2_with fail
        go_ret3
        refine ⟨?_, HR.out.2.drewN _⟩
        have e1 : x.extract (H + 2 + 2) (H + 2 + 2 + n) = ⟨(r.take n).toArray⟩ := Hxd.out
        have e2 : (H : Int) + 2 + 2 + n = (((hdl n).length + 4 + n : Nat) : Int) := by have := HH.out; omega
        show Ending.returned (.tuple #[.string (x.extract (H + 2 + 2) (H + 2 + 2 + n)), .int .i64 ((H : Int) + 2 + 2 + n), .int .i64 0]) = _
        rw [e1, e2]
theorem next_part (x : ByteArray) (n : Nat) (w : World) (hn : n ≤ 4000) (hs : x.size ≤ 1000000) (hM : ML w) (h : Pt n x.data.toList) : Calls Tryd.prog 10 #[.string x] w (NxPost ⟨#[]⟩ 0 w) := by
  have hl := hdl_len hn
  have hz : x.data.toList.length = x.size := rfl
  rcases h with ⟨h1, h2⟩ | h | h | h | ⟨r, h, hr⟩
  · exact next_none x w (ix_none _ h1) (by omega) hM
  · refine next_none x w (by rw [h]; exact ix_none1 _ (hdl_no n)) ?_ hM
    rw [h, List.length_append, List.length_singleton] at hz
    omega
  · exact next_line x n [] _ _ w h hn hs hM (Or.inl ⟨Or.inl rfl, by rw [h]; simp; omega, rfl, rfl⟩)
  · exact next_line x n [13] _ _ w h hn hs hM (Or.inl ⟨Or.inr rfl, by rw [h]; simp; omega, rfl, rfl⟩)
  · exact next_line x n _ _ _ w h hn hs hM (Or.inr (Or.inl ⟨r, rfl, hr, rfl, rfl⟩))
theorem next_full (x b : ByteArray) (r : List UInt8) (w : World) (hb : b.size ≤ 4000) (hs : x.size ≤ 1000000) (hM : ML w) (h : x.data.toList = frame b ++ r) : Calls Tryd.prog 10 #[.string x] w (NxPost b (frame b).length w) := by
  refine next_line x b.size (13 :: 10 :: (b.data.toList ++ r)) b _ w (by rw [h]; unfold frame; simp) hb hs hM (Or.inr (Or.inr ⟨b.data.toList ++ r, rfl, ?_, ?_, frame_len b⟩))
  · rw [List.length_append]
    have : b.data.toList.length = b.size := rfl
    omega
  · have e : b.size = b.data.toList.length := rfl
    rw [e, List.take_left]
end Go.Proofs.YtjcalbjblbbinaaDoor
