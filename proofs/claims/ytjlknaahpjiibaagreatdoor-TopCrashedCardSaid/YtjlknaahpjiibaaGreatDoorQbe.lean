/- Part of the proof of topCrashedLaw_holds. -/
import Derived.Test.YtjlknaahpjiibaaGreatDoorQaz
import Derived.Test.YtjlknaahpjiibaaGreatDoorQbd
namespace Go.Proofs.YtjlknaahpjiibaaGreatDoor.Jv
open Go.RowKit Go.ChangeMaps Go.MapKept
set_option linter.unusedVariables false
set_option linter.unusedSimpArgs false
def hx (d : Nat) : UInt8 := if d < 10 then (48 + d).toUInt8 else (87 + d).toUInt8
def escN (a : Nat) : List UInt8 :=
 if a = 34 then [92, 34] else if a = 92 then [92, 92] else if a = 8 then [92, 98] else if a = 9 then [92, 116] else if a = 10 then [92, 110] else if a = 12 then [92, 102] else if a = 13 then [92, 114] else if a < 32 then [92, 117, 48, 48, hx (a / 16), hx (a % 16)] else [a.toUInt8]
def hexD : ByteArray := ⟨#[48, 49, 50, 51, 52, 53, 54, 55, 56, 57, 97, 98, 99, 100, 101, 102]⟩
theorem hexD_all : ∀ d : Fin 16, (hexD[d.val]'(d.isLt)) = hx d.val := by decide
theorem hexD_lt (d : Nat) (h : d < 16) : ((ByteArray.mk #[48, 49, 50, 51, 52, 53, 54, 55, 56, 57, 97, 98, 99, 100, 101, 102])[d]'h).toNat < 256 := UInt8.toNat_lt _
theorem hexD_u8 (d : Nat) (h : d < 16) : ((ByteArray.mk #[48, 49, 50, 51, 52, 53, 54, 55, 56, 57, 97, 98, 99, 100, 101, 102])[d]'h).toNat.toUInt8 = hx d := by
 have e := hexD_all ⟨d, h⟩
 have e2 : (ByteArray.mk #[48, 49, 50, 51, 52, 53, 54, 55, 56, 57, 97, 98, 99, 100, 101, 102])[d]'h = hx d := e
 rw [e2]
 simp [Nat.toUInt8]
def escL : List UInt8 → List UInt8
 | [] => []
 | c :: l => escN c.toNat ++ escL l
def encS (s : ByteArray) : List UInt8 := 34 :: (escL s.data.toList ++ [34])
def ixc (a : Nat) : Int := if a = 8 then 0 else if a = 9 then 1 else if a = 10 then 2 else if a = 12 then 3 else if a = 13 then 4 else -1
set_option maxRecDepth 100000 in
theorem ixc_eq : ∀ a : Nat, a < 256 → Lib.indexByte [8, 9, 10, 12, 13] ((a : Int).toNat.toUInt8) = ixc a := by decide
def BW (B b : Nat) (l : List UInt8) (w : World) : Prop := IsBld B b (Lib.byteCells l) w
theorem cells_app (l m : List UInt8) : Lib.byteCells (l ++ m) = Lib.byteCells l ++ Lib.byteCells m := by simp [Lib.byteCells]
theorem cells_len (l : List UInt8) : (Lib.byteCells l).length = l.length := by simp [Lib.byteCells]
theorem BW.same {B b : Nat} {l : List UInt8} {w w' : World} (h : BW B b l w) (hc : Chg [] w w') : BW B b l w' := IsBld.same h hc
def WrPost (B b : Nat) (l : List UInt8) (v : Value) (w : World) (e : Ending) (w' : World) : Prop := e = .returned v ∧ BW B b l w' ∧ ChgP (bldSet B b w) w w' ∧ w.heap.size ≤ w'.heap.size
theorem wb_any (B b : Nat) (l : List UInt8) (a : Nat) (w : World) (h : BW B b l w) (ha : a < 256) (hlen : l.length + 1 ≤ 140737488355328) (hBw : B ≤ w.heap.size) :
 Calls Tryz.prog 168 #[.pointer (some ⟨b, 0, none⟩), .int .u8 (a : Nat)] w (WrPost B b (l ++ [a.toUInt8]) .nilIface w) :=
 (writeByte_any B b _ (a : Nat) w h (by rw [cells_len]; exact hlen) hBw).mono fun e w' ⟨h1, h2, h3⟩ => ⟨h1, by
  unfold BW
  rw [cells_app]
  have e : Lib.byteCells [a.toUInt8] = [Value.int .u8 (a : Nat)] := by
   have : a.toUInt8.toNat = a := by simp [Nat.toUInt8, UInt8.toNat_ofNat']; omega
   simp [Lib.byteCells, this]
  rw [e]
  exact h2, h3, h3.size⟩
theorem ws_any (B b : Nat) (l : List UInt8) (s : ByteArray) (w : World) (h : BW B b l w) (hlen : l.length + s.size ≤ 140737488355328) (hBw : B ≤ w.heap.size) :
 Calls Tryz.prog 125 #[.pointer (some ⟨b, 0, none⟩), .string s] w (WrPost B b (l ++ s.data.toList) (.tuple #[.int .i64 s.size, .nilIface]) w) :=
 (writeString_any B b _ s w h (by rw [cells_len]; exact hlen) hBw).mono fun e w' ⟨h1, h2, h3⟩ => ⟨h1, by
  unfold BW
  rw [cells_app]
  exact h2, h3, h3.size⟩
theorem escL_drop {l : List UInt8} {i : Nat} (hi : i < l.length) : escL (l.drop i) = escN l[i].toNat ++ escL (l.drop (i + 1)) := by rw [List.drop_eq_getElem_cons hi, escL]
set_option maxRecDepth 100000 in
set_option maxHeartbeats 8000000 in
theorem encS_any (B b : Nat) (l : List UInt8) (s : ByteArray) (w : World) (h : BW B b l w) (hlen : l.length + (encS s).length ≤ 140737488355328) (hBw : B ≤ w.heap.size) (hs : s.size ≤ maxLen) :
 Calls Tryz.prog 127 #[.pointer (some ⟨b, 0, none⟩), .string s] w (WrPost B b (l ++ encS s) (.tuple #[]) w) := by
 have Hl := Lib.hid hlen
 have Hb := Lib.hid hBw
 have e1 : (encS s).length = (escL s.data.toList).length + 2 := by simp [encS]
 have H1 := Lib.hid (wb_any B b l 34 w h (by decide) (by omega) hBw)
 unfold maxLen at hs
 have Hix := Lib.hid (fun (a : Nat) (ha : a < 256) (W : World) => by have h := Tryz.strings_IndexByte ⟨#[8, 9, 10, 12, 13]⟩ (a : Nat) W; rw [show (ByteArray.mk #[8, 9, 10, 12, 13]).data.toList = [8, 9, 10, 12, 13] from rfl, ixc_eq a ha] at h; exact h)
 have E1 := Lib.hid e1
 clear h hlen hBw e1
 go_enter Tryz.func127, Tryz.ntmps127
 go_wp2_with fail
 refine H1.out.mono ?_
 rintro e w1 ⟨rfl, h1, hc1, hz1⟩
 have HI : Hid (BW B b (l ++ [34]) w1 ∧ ChgP (bldSet B b w) w w1 ∧ B ≤ w1.heap.size) := Lib.hid ⟨h1, hc1, by have := Hb.out; omega⟩
 clear h1 hc1 hz1
 go_wp2_with fail
 go_loopw [11] (fun ii wr => ∃ (i : Nat) (m : List UInt8), i ≤ s.size ∧ ii = .int .i64 (i : Nat) ∧ Hid (BW B b m wr ∧ ChgP (bldSet B b w) w wr ∧ B ≤ wr.heap.size) ∧ Hid (m ++ escL (s.data.toList.drop i) = l ++ 34 :: escL s.data.toList)) (fun ii _ => s.size - (intOf ii).toNat)
 case atStart => exact ⟨0, _, by omega, rfl, HI, Lib.hid (by simp)⟩
 case round =>
  obtain ⟨i, m, hi, rfl, HB, HM⟩ := hrel
  by_cases hlt : i < s.size
  · have hij : (i : Int) < s.size := by omega
    have hi0 : (0 : Int) ≤ i := by omega
    obtain ⟨a, ha, ha6, hsz, hM2⟩ : ∃ a, s[i].toNat = a ∧ a < 256 ∧ m.length + (escN a).length + 1 ≤ 140737488355328 ∧ (m ++ escN a) ++ escL (s.data.toList.drop (i + 1)) = l ++ 34 :: escL s.data.toList := by
     have hld : i < s.data.toList.length := hlt
     have Hd := escL_drop hld
     have hsi : s.data.toList[i] = s[i] := by simp [ByteArray.getElem_eq_getElem_data]
     rw [hsi] at Hd
     have hMl : m.length + (escL (s.data.toList.drop i)).length = l.length + 1 + (escL s.data.toList).length := by have := congrArg List.length HM.out; simp at this; omega
     have hel : (escL (s.data.toList.drop i)).length = (escN s[i].toNat).length + (escL (s.data.toList.drop (i + 1))).length := by rw [Hd, List.length_append]
     refine ⟨_, rfl, s[i].toNat_lt, by have := Hl.out; have := E1.out; omega, by rw [List.append_assoc, ← Hd]; exact HM.out⟩
    have Hsz := Lib.hid hsz
    have HM2 := Lib.hid hM2
    have Hi2 := Lib.hid (Hix.out a ha6)
    clear hsz hM2
    by_cases h34 : a = 34
    · subst h34
      have Hi3 := Lib.hid (show ∀ W : World, Calls Tryz.prog 136 #[.string ⟨#[8, 9, 10, 12, 13]⟩, .int .u8 34] W (fun e w' => e = .returned (.int .i64 (-1)) ∧ w' = W) from Hi2.out)
      go_wp2_with fail
      refine (Hi3.out wr).mono ?_
      rintro e w' ⟨rfl, rfl⟩
      go_wp2_with fail
      refine (wb_any B b (m) 92 _ HB.out.1 (by decide) (by have := Hsz.out; simp [escN] at this ⊢; omega) HB.out.2.2).mono ?_
      rintro e w2 ⟨rfl, h1, hc1, hz1⟩
      have HB2 : Hid (BW B b (m ++ [92]) w2 ∧ ChgP (bldSet B b w) w w2 ∧ B ≤ w2.heap.size) := Lib.hid ⟨h1, bset_trans HB.out.2.1 hc1, by have := HB.out.2.2; omega⟩
      clear h1 hc1 hz1
      go_wp2_with fail
      refine (wb_any B b (m ++ [92]) 34 _ HB2.out.1 (by decide) (by have := Hsz.out; simp [escN] at this ⊢; omega) HB2.out.2.2).mono ?_
      rintro e w3 ⟨rfl, h1, hc1, hz1⟩
      have HB3 : Hid (BW B b (m ++ [92] ++ [34]) w3 ∧ ChgP (bldSet B b w) w w3 ∧ B ≤ w3.heap.size) := Lib.hid ⟨h1, bset_trans HB2.out.2.1 hc1, by have := HB2.out.2.2; omega⟩
      clear h1 hc1 hz1
      go_wp2_with fail
      exact ⟨⟨i + 1, _, by omega, by go_num, HB3, Lib.hid (by have := HM2.out; simpa [escN] using this)⟩, by simp [intOf]; omega⟩
    by_cases h92 : a = 92
    · subst h92
      have Hi3 := Lib.hid (show ∀ W : World, Calls Tryz.prog 136 #[.string ⟨#[8, 9, 10, 12, 13]⟩, .int .u8 92] W (fun e w' => e = .returned (.int .i64 (-1)) ∧ w' = W) from Hi2.out)
      go_wp2_with fail
      refine (Hi3.out wr).mono ?_
      rintro e w' ⟨rfl, rfl⟩
      go_wp2_with fail
      refine (wb_any B b (m) 92 _ HB.out.1 (by decide) (by have := Hsz.out; simp [escN] at this ⊢; omega) HB.out.2.2).mono ?_
      rintro e w2 ⟨rfl, h1, hc1, hz1⟩
      have HB2 : Hid (BW B b (m ++ [92]) w2 ∧ ChgP (bldSet B b w) w w2 ∧ B ≤ w2.heap.size) := Lib.hid ⟨h1, bset_trans HB.out.2.1 hc1, by have := HB.out.2.2; omega⟩
      clear h1 hc1 hz1
      go_wp2_with fail
      refine (wb_any B b (m ++ [92]) 92 _ HB2.out.1 (by decide) (by have := Hsz.out; simp [escN] at this ⊢; omega) HB2.out.2.2).mono ?_
      rintro e w3 ⟨rfl, h1, hc1, hz1⟩
      have HB3 : Hid (BW B b (m ++ [92] ++ [92]) w3 ∧ ChgP (bldSet B b w) w w3 ∧ B ≤ w3.heap.size) := Lib.hid ⟨h1, bset_trans HB2.out.2.1 hc1, by have := HB2.out.2.2; omega⟩
      clear h1 hc1 hz1
      go_wp2_with fail
      exact ⟨⟨i + 1, _, by omega, by go_num, HB3, Lib.hid (by have := HM2.out; simpa [escN] using this)⟩, by simp [intOf]; omega⟩
    by_cases h8 : a = 8
    · subst h8
      have Hi3 := Lib.hid (show ∀ W : World, Calls Tryz.prog 136 #[.string ⟨#[8, 9, 10, 12, 13]⟩, .int .u8 8] W (fun e w' => e = .returned (.int .i64 (0)) ∧ w' = W) from Hi2.out)
      go_wp2_with fail
      refine (Hi3.out wr).mono ?_
      rintro e w' ⟨rfl, rfl⟩
      go_wp2_with fail
      refine (wb_any B b (m) 92 _ HB.out.1 (by decide) (by have := Hsz.out; simp [escN] at this ⊢; omega) HB.out.2.2).mono ?_
      rintro e w2 ⟨rfl, h1, hc1, hz1⟩
      have HB2 : Hid (BW B b (m ++ [92]) w2 ∧ ChgP (bldSet B b w) w w2 ∧ B ≤ w2.heap.size) := Lib.hid ⟨h1, bset_trans HB.out.2.1 hc1, by have := HB.out.2.2; omega⟩
      clear h1 hc1 hz1
      go_wp2_with fail
      refine (wb_any B b (m ++ [92]) 98 _ HB2.out.1 (by decide) (by have := Hsz.out; simp [escN] at this ⊢; omega) HB2.out.2.2).mono ?_
      rintro e w3 ⟨rfl, h1, hc1, hz1⟩
      have HB3 : Hid (BW B b (m ++ [92] ++ [98]) w3 ∧ ChgP (bldSet B b w) w w3 ∧ B ≤ w3.heap.size) := Lib.hid ⟨h1, bset_trans HB2.out.2.1 hc1, by have := HB2.out.2.2; omega⟩
      clear h1 hc1 hz1
      go_wp2_with fail
      exact ⟨⟨i + 1, _, by omega, by go_num, HB3, Lib.hid (by have := HM2.out; simpa [escN] using this)⟩, by simp [intOf]; omega⟩
    by_cases h9 : a = 9
    · subst h9
      have Hi3 := Lib.hid (show ∀ W : World, Calls Tryz.prog 136 #[.string ⟨#[8, 9, 10, 12, 13]⟩, .int .u8 9] W (fun e w' => e = .returned (.int .i64 (1)) ∧ w' = W) from Hi2.out)
      go_wp2_with fail
      refine (Hi3.out wr).mono ?_
      rintro e w' ⟨rfl, rfl⟩
      go_wp2_with fail
      refine (wb_any B b (m) 92 _ HB.out.1 (by decide) (by have := Hsz.out; simp [escN] at this ⊢; omega) HB.out.2.2).mono ?_
      rintro e w2 ⟨rfl, h1, hc1, hz1⟩
      have HB2 : Hid (BW B b (m ++ [92]) w2 ∧ ChgP (bldSet B b w) w w2 ∧ B ≤ w2.heap.size) := Lib.hid ⟨h1, bset_trans HB.out.2.1 hc1, by have := HB.out.2.2; omega⟩
      clear h1 hc1 hz1
      go_wp2_with fail
      refine (wb_any B b (m ++ [92]) 116 _ HB2.out.1 (by decide) (by have := Hsz.out; simp [escN] at this ⊢; omega) HB2.out.2.2).mono ?_
      rintro e w3 ⟨rfl, h1, hc1, hz1⟩
      have HB3 : Hid (BW B b (m ++ [92] ++ [116]) w3 ∧ ChgP (bldSet B b w) w w3 ∧ B ≤ w3.heap.size) := Lib.hid ⟨h1, bset_trans HB2.out.2.1 hc1, by have := HB2.out.2.2; omega⟩
      clear h1 hc1 hz1
      go_wp2_with fail
      exact ⟨⟨i + 1, _, by omega, by go_num, HB3, Lib.hid (by have := HM2.out; simpa [escN] using this)⟩, by simp [intOf]; omega⟩
    by_cases h10 : a = 10
    · subst h10
      have Hi3 := Lib.hid (show ∀ W : World, Calls Tryz.prog 136 #[.string ⟨#[8, 9, 10, 12, 13]⟩, .int .u8 10] W (fun e w' => e = .returned (.int .i64 (2)) ∧ w' = W) from Hi2.out)
      go_wp2_with fail
      refine (Hi3.out wr).mono ?_
      rintro e w' ⟨rfl, rfl⟩
      go_wp2_with fail
      refine (wb_any B b (m) 92 _ HB.out.1 (by decide) (by have := Hsz.out; simp [escN] at this ⊢; omega) HB.out.2.2).mono ?_
      rintro e w2 ⟨rfl, h1, hc1, hz1⟩
      have HB2 : Hid (BW B b (m ++ [92]) w2 ∧ ChgP (bldSet B b w) w w2 ∧ B ≤ w2.heap.size) := Lib.hid ⟨h1, bset_trans HB.out.2.1 hc1, by have := HB.out.2.2; omega⟩
      clear h1 hc1 hz1
      go_wp2_with fail
      refine (wb_any B b (m ++ [92]) 110 _ HB2.out.1 (by decide) (by have := Hsz.out; simp [escN] at this ⊢; omega) HB2.out.2.2).mono ?_
      rintro e w3 ⟨rfl, h1, hc1, hz1⟩
      have HB3 : Hid (BW B b (m ++ [92] ++ [110]) w3 ∧ ChgP (bldSet B b w) w w3 ∧ B ≤ w3.heap.size) := Lib.hid ⟨h1, bset_trans HB2.out.2.1 hc1, by have := HB2.out.2.2; omega⟩
      clear h1 hc1 hz1
      go_wp2_with fail
      exact ⟨⟨i + 1, _, by omega, by go_num, HB3, Lib.hid (by have := HM2.out; simpa [escN] using this)⟩, by simp [intOf]; omega⟩
    by_cases h12 : a = 12
    · subst h12
      have Hi3 := Lib.hid (show ∀ W : World, Calls Tryz.prog 136 #[.string ⟨#[8, 9, 10, 12, 13]⟩, .int .u8 12] W (fun e w' => e = .returned (.int .i64 (3)) ∧ w' = W) from Hi2.out)
      go_wp2_with fail
      refine (Hi3.out wr).mono ?_
      rintro e w' ⟨rfl, rfl⟩
      go_wp2_with fail
      refine (wb_any B b (m) 92 _ HB.out.1 (by decide) (by have := Hsz.out; simp [escN] at this ⊢; omega) HB.out.2.2).mono ?_
      rintro e w2 ⟨rfl, h1, hc1, hz1⟩
      have HB2 : Hid (BW B b (m ++ [92]) w2 ∧ ChgP (bldSet B b w) w w2 ∧ B ≤ w2.heap.size) := Lib.hid ⟨h1, bset_trans HB.out.2.1 hc1, by have := HB.out.2.2; omega⟩
      clear h1 hc1 hz1
      go_wp2_with fail
      refine (wb_any B b (m ++ [92]) 102 _ HB2.out.1 (by decide) (by have := Hsz.out; simp [escN] at this ⊢; omega) HB2.out.2.2).mono ?_
      rintro e w3 ⟨rfl, h1, hc1, hz1⟩
      have HB3 : Hid (BW B b (m ++ [92] ++ [102]) w3 ∧ ChgP (bldSet B b w) w w3 ∧ B ≤ w3.heap.size) := Lib.hid ⟨h1, bset_trans HB2.out.2.1 hc1, by have := HB2.out.2.2; omega⟩
      clear h1 hc1 hz1
      go_wp2_with fail
      exact ⟨⟨i + 1, _, by omega, by go_num, HB3, Lib.hid (by have := HM2.out; simpa [escN] using this)⟩, by simp [intOf]; omega⟩
    by_cases h13 : a = 13
    · subst h13
      have Hi3 := Lib.hid (show ∀ W : World, Calls Tryz.prog 136 #[.string ⟨#[8, 9, 10, 12, 13]⟩, .int .u8 13] W (fun e w' => e = .returned (.int .i64 (4)) ∧ w' = W) from Hi2.out)
      go_wp2_with fail
      refine (Hi3.out wr).mono ?_
      rintro e w' ⟨rfl, rfl⟩
      go_wp2_with fail
      refine (wb_any B b (m) 92 _ HB.out.1 (by decide) (by have := Hsz.out; simp [escN] at this ⊢; omega) HB.out.2.2).mono ?_
      rintro e w2 ⟨rfl, h1, hc1, hz1⟩
      have HB2 : Hid (BW B b (m ++ [92]) w2 ∧ ChgP (bldSet B b w) w w2 ∧ B ≤ w2.heap.size) := Lib.hid ⟨h1, bset_trans HB.out.2.1 hc1, by have := HB.out.2.2; omega⟩
      clear h1 hc1 hz1
      go_wp2_with fail
      refine (wb_any B b (m ++ [92]) 114 _ HB2.out.1 (by decide) (by have := Hsz.out; simp [escN] at this ⊢; omega) HB2.out.2.2).mono ?_
      rintro e w3 ⟨rfl, h1, hc1, hz1⟩
      have HB3 : Hid (BW B b (m ++ [92] ++ [114]) w3 ∧ ChgP (bldSet B b w) w w3 ∧ B ≤ w3.heap.size) := Lib.hid ⟨h1, bset_trans HB2.out.2.1 hc1, by have := HB2.out.2.2; omega⟩
      clear h1 hc1 hz1
      go_wp2_with fail
      exact ⟨⟨i + 1, _, by omega, by go_num, HB3, Lib.hid (by have := HM2.out; simpa [escN] using this)⟩, by simp [intOf]; omega⟩
    have hix : ixc a = -1 := by unfold ixc; rw [if_neg h8, if_neg h9, if_neg h10, if_neg h12, if_neg h13]
    have Hi3 := Lib.hid (fun W : World => by have h := Hi2.out W; rw [hix] at h; exact h)
    have n34 : ((a : Int) == 34) = false := by simp; omega
    have n92 : ((a : Int) == 92) = false := by simp; omega
    have m34 : (a == 34) = false := by simp; omega
    have m92 : (a == 92) = false := by simp; omega
    have hesc : escN a = if a < 32 then [92, 117, 48, 48, hx (a / 16), hx (a % 16)] else [a.toUInt8] := by unfold escN; rw [if_neg h34, if_neg h92, if_neg h8, if_neg h9, if_neg h10, if_neg h12, if_neg h13]
    rw [hesc] at HM2 Hsz
    clear hix hesc
    by_cases h32 : a < 32
    · rw [if_pos h32] at HM2 Hsz
      have h32i : (a : Int) < 32 := by omega
      go_wp2_with fail
      refine (Hi3.out wr).mono ?_
      rintro e w' ⟨rfl, rfl⟩
      go_wp2_with fail
      refine (ws_any B b m ⟨#[92, 117, 48, 48]⟩ _ HB.out.1 (by have h1 := Hsz.out; have h2 : (ByteArray.mk #[92, 117, 48, 48]).size = 4 := rfl; simp at h1; omega) HB.out.2.2).mono ?_
      rintro e w2 ⟨rfl, h1, hc1, hz1⟩
      have HB2 : Hid (BW B b (m ++ [92, 117, 48, 48]) w2 ∧ ChgP (bldSet B b w) w w2 ∧ B ≤ w2.heap.size) := Lib.hid ⟨h1, bset_trans HB.out.2.1 hc1, by have := HB.out.2.2; omega⟩
      clear h1 hc1 hz1
      have q1 : a / 16 < 16 := by omega
      have q2 : a % 16 < 16 := by omega
      go_wp2_with fail
      refine (wb_any B b (m ++ [92, 117, 48, 48]) _ _ HB2.out.1 (hexD_lt _ q1) (by have := Hsz.out; simp at this ⊢; omega) HB2.out.2.2).mono ?_
      rintro e w3 ⟨rfl, h1, hc1, hz1⟩
      rw [hexD_u8 _ q1] at h1
      have HB3 : Hid (BW B b ((m ++ [92, 117, 48, 48]) ++ [hx (a / 16)]) w3 ∧ ChgP (bldSet B b w) w w3 ∧ B ≤ w3.heap.size) := Lib.hid ⟨h1, bset_trans HB2.out.2.1 hc1, by have := HB2.out.2.2; omega⟩
      clear h1 hc1 hz1
      go_wp2_with fail
      refine (wb_any B b ((m ++ [92, 117, 48, 48]) ++ [hx (a / 16)]) _ _ HB3.out.1 (hexD_lt _ q2) (by have := Hsz.out; simp at this ⊢; omega) HB3.out.2.2).mono ?_
      rintro e w4 ⟨rfl, h1, hc1, hz1⟩
      rw [hexD_u8 _ q2] at h1
      have HB4 : Hid (BW B b ((m ++ [92, 117, 48, 48]) ++ [hx (a / 16)] ++ [hx (a % 16)]) w4 ∧ ChgP (bldSet B b w) w w4 ∧ B ≤ w4.heap.size) := Lib.hid ⟨h1, bset_trans HB3.out.2.1 hc1, by have := HB3.out.2.2; omega⟩
      clear h1 hc1 hz1
      go_wp2_with fail
      exact ⟨⟨i + 1, _, by omega, by go_num, HB4, Lib.hid (by have := HM2.out; simpa using this)⟩, by simp [intOf]; omega⟩
    · rw [if_neg h32] at HM2 Hsz
      have h32i : ¬ (a : Int) < 32 := by omega
      go_wp2_with fail
      refine (Hi3.out wr).mono ?_
      rintro e w' ⟨rfl, rfl⟩
      go_wp2_with fail
      refine (wb_any B b (m) a _ HB.out.1 ha6 (by have := Hsz.out; simp at this; omega) HB.out.2.2).mono ?_
      rintro e w2 ⟨rfl, h1, hc1, hz1⟩
      have HB2 : Hid (BW B b (m ++ [a.toUInt8]) w2 ∧ ChgP (bldSet B b w) w w2 ∧ B ≤ w2.heap.size) := Lib.hid ⟨h1, bset_trans HB.out.2.1 hc1, by have := HB.out.2.2; omega⟩
      clear h1 hc1 hz1
      go_wp2_with fail
      exact ⟨⟨i + 1, _, by omega, by go_num, HB2, HM2⟩, by simp [intOf]; omega⟩
  · obtain rfl : i = s.size := by omega
    have hM := HM.out
    rw [List.drop_of_length_le (show s.data.toList.length ≤ s.size from Nat.le_refl _), escL, List.append_nil] at hM
    subst hM
    have hz := Hl.out
    have hz2 := E1.out
    go_wp2_with fail
    refine (wb_any B b _ 34 wr HB.out.1 (by decide) (by simp; omega) HB.out.2.2).mono ?_
    rintro e w2 ⟨rfl, h1, hc1, hz1⟩
    have HB2 : Hid (BW B b (l ++ encS s) w2 ∧ ChgP (bldSet B b w) w w2) := Lib.hid ⟨by have := h1; simpa [encS] using this, bset_trans HB.out.2.1 hc1⟩
    clear h1 hc1 hz1
    go_wp2_with fail
    go_end0
    exact ⟨rfl, HB2.out.1, HB2.out.2, HB2.out.2.size⟩
mutual
def J.enc : J → List UInt8
 | .mk k n t ns es => if k = 0 then [110, 117, 108, 108] else if k = 1 then Lib.formatBool (decide (n = 1)) else if k = 2 then Lib.itoa n else if k = 3 then encS t else (if k = 5 then 123 else 91) :: (encL k 0 ns es ++ [if k = 5 then 125 else 93])
def encL (k : Int) : Nat → List ByteArray → List J → List UInt8
 | _, _, [] => []
 | i, ns, e :: es => (if 0 < i then [44] else []) ++ (if k = 5 then encS (ns.getD i ⟨#[]⟩) ++ [58] else []) ++ e.enc ++ encL k (i + 1) ns es
end
def encE : J → List UInt8 | .mk k n t ns es => (if k = 5 then 123 else 91) :: (encL k 0 ns es ++ [if k = 5 then 125 else 93])
theorem encL_drop {k : Int} {ns : List ByteArray} {es : List J} {i : Nat} (hi : i < es.length) : encL k i ns (es.drop i) = (if 0 < i then [44] else []) ++ (if k = 5 then encS (ns.getD i ⟨#[]⟩) ++ [58] else []) ++ es[i].enc ++ encL k (i + 1) ns (es.drop (i + 1)) := by
 rw [List.drop_eq_getElem_cons hi, encL]
def P10 (w : World) : Prop := Lib.TabIs Tryz.prog w "internal/strconv.uint64pow10" .u64 Lib.pow10Tab
theorem p10_named : Tryz.prog.globalNamed "internal/strconv.uint64pow10" = some 3 := by kernel_rfl
theorem P10.lt {w : World} (h : P10 w) : 3 < w.heap.size := by
 unfold P10 Lib.TabIs World.var? at h
 rw [p10_named, Option.bind_some] at h
 split at h
 · rename_i hb; exact lt_of_obj hb
 · cases h
theorem P10.kept {w w' : World} {S : Nat → Prop} (h : P10 w) (hc : ChgP S w w') (hS : ¬ S 3) : P10 w' := by
 have hl := h.lt
 unfold P10 Lib.TabIs World.var? at h ⊢
 rw [p10_named, Option.bind_some] at h ⊢
 rw [hc.block 3 hl hS]
 exact h
theorem chg_grow {w w' : World} (h : ∃ k os, w' = Go.Sort.grow (w.drewN k) os) : Chg [] w w' := by
 obtain ⟨k, os, rfl⟩ := h
 refine ⟨rfl, rfl, rfl, by simp [Go.Sort.grow, World.drewN], fun i hi _ => ?_⟩
 show (w.heap ++ os)[i]? = w.heap[i]?
 rw [Array.getElem?_append_left hi]
theorem itoa_any (n : Int) (w : World) (h0 : -9007199254740991 ≤ n) (h1 : n ≤ 9007199254740991) (hP : P10 w) : Calls Tryz.prog 79 #[.int .i64 n] w fun e w' => e = .returned (.string ⟨(Lib.itoa n).toArray⟩) ∧ Chg [] w w' :=
 (Tryz.strconv_Itoa n (by omega) (by omega) w hP).mono fun e w' ⟨h1, h2⟩ => ⟨h1, chg_grow h2⟩
theorem BW.lt {B b : Nat} {l : List UInt8} {w : World} (h : BW B b l w) : b < w.heap.size ∧ B ≤ b := by
 rcases h with ⟨hB, v, hb, _⟩ | ⟨hB, v, hb, _⟩ <;> exact ⟨lt_of_obj hb, hB⟩
theorem JV.bk {p : Nat → Prop} {B b f : Nat} {w w' : World} {v : Value} {j : J} (h : JV p f w v j) (hp : ∀ g, p g → g < B) (hc : ChgP (bldSet B b w) w w') : JV p f w' v j := h.kept hc fun g hg => bset_below (hp g hg)
theorem box_bk {B b x : Nat} {w w' : World} {k n : Int} {t : ByteArray} {nv iv : Value} (h : w.heap[x]? = some (.cells #[.int .i64 k, .int .i64 n, .string t, nv, iv] 59 (0, 0))) (hx : x ≠ b) (hc : ChgP (bldSet B b w) w w') : w'.heap[x]? = some (.cells #[.int .i64 k, .int .i64 n, .string t, nv, iv] 59 (0, 0)) :=
 (hc.block x (lt_of_obj h) (bset_box h hx)).trans h
def EncAt (F : FuncId) (g : J → List UInt8) (p : Nat → Prop) (B b f : Nat) : Prop := ∀ (w : World) (j : J) (v : Value) (l : List UInt8), JV p f w v j → Sm j → BW B b l w → B ≤ w.heap.size → P10 w → l.length + (g j).length ≤ 140737488355328 → Calls Tryz.prog F #[.pointer (some ⟨b, 0, none⟩), v] w (WrPost B b (l ++ g j) (.tuple #[]) w)
theorem cells_bk {B b : Nat} {w w' : World} {a : Addr} {u : Value} (h : w.cell? a = some u) (ha : a.block < B) (hc : ChgP (bldSet B b w) w w') : w'.cell? a = some u := (hc.cell (lt_of_cell h) (bset_below ha)).trans h
set_option maxRecDepth 100000 in
set_option maxHeartbeats 16000000 in
theorem elems_step (p : Nat → Prop) (B b f : Nat) (hp : (∀ g, p g → g < B) ∧ 3 < B) (ih : ∀ f', f' < f → EncAt 76 J.enc p B b f') : ∀ (w : World) (j : J) (v : Value) (l : List UInt8), JV p f w v j → Sm j → BW B b l w → B ≤ w.heap.size → P10 w → l.length + (encE j).length ≤ 140737488355328 →
 Calls Tryz.prog 128 #[.pointer (some ⟨b, 0, none⟩), v] w (WrPost B b (l ++ encE j) (.tuple #[]) w) := by
 intro w j v l hj hs hb hBw hP hlen
 obtain ⟨k, n, t, ns, es⟩ := j
 obtain ⟨na, nc, a, cap, rfl, hns, hes, ⟨hn1, hn2⟩, ⟨hl1, hl2⟩, hts⟩ := hj.shape
 simp only [J.kind, J.num, J.text, J.names, J.elems] at hns hes hl1 hl2 hts hj hn1 hn2 ⊢
 unfold maxLen at hl2 hn2
 obtain ⟨wq, hwq⟩ : ∃ x, x = w.alloc (.cells #[.int .i64 k, .int .i64 n, .string t, .slice na ns.length nc, .slice a es.length cap] 59) := ⟨_, rfl⟩
 obtain ⟨B1, hB1⟩ : ∃ x, x = w.heap.size := ⟨_, rfl⟩
 have hcq : Chg [] w wq := by rw [hwq]; exact (Chg.refl _ _).alloc _
 have hbb : wq.heap[B1]? = some (.cells #[.int .i64 k, .int .i64 n, .string t, .slice na ns.length nc, .slice a es.length cap] 59 (0, 0)) := by rw [hwq, hB1]; exact heap_at _ _ _ rfl
 obtain ⟨b0, b1, b2, b3, b4⟩ := box_kept B1 hbb (Chg.refl [] wq)
 have lb := lt_of_cell b0
 have Hbb := Lib.hid hbb
 have Hb1 := Lib.hid (show b < B1 by rw [hB1]; exact hb.lt.1)
 have HBq : Hid (BW B b l wq ∧ ChgP (bldSet B b wq) wq wq ∧ B ≤ wq.heap.size) := Lib.hid ⟨hb.same hcq, ChgP.refl _ _, Nat.le_trans hBw hcq.size⟩
 have Hcq := Lib.hid hcq
 have Hes := Lib.hid (SlR.imp hes (fun _ h => h) fun ad x hp hx => rdJ.kept (S := fun _ => False) hcq.p (fun g hg e => e) hp hx : SlR p 5 (rdJ p f) wq (.slice a es.length cap) es)
 have Hns := Lib.hid (strs_kept (S := fun _ => False) hns hcq.p (fun _ _ h => h))
 have Hnz := Lib.hid (rdS_size hns)
 have Hs := Lib.hid hs
 have Hp := Lib.hid hp
 have HP := Lib.hid (hP.kept (S := fun _ => False) hcq.p (fun h => h))
 have Hlen := Lib.hid (show l.length + 2 + (encL k 0 ns es).length ≤ 140737488355328 by simp [encE] at hlen; omega)
 have HE : Hid (encE (J.mk k n t ns es) = (if k = 5 then 123 else 91) :: (encL k 0 ns es ++ [if k = 5 then 125 else 93])) := Lib.hid rfl
 clear hj hs hb hBw hP hlen hes hns hcq hbb hp
 go_enter Tryz.func128, Tryz.ntmps128
 go_upto_region 1 with fail
 rw [← hwq, ← hB1]
 clear hwq hB1
 by_cases hk : k = 5
 · subst hk
   have Hnl := Lib.hid (show ns.length = es.length from (wf_obj (vd_zero.1 Hs.out.1).2.1).1)
   rw [if_pos rfl, if_pos rfl] at HE
   go_wp2_with fail
   refine (wb_any B b l 123 _ HBq.out.1 (by decide) (by have := Hlen.out; omega) HBq.out.2.2).mono ?_
   rintro e w1 ⟨rfl, h1, hc1, hz1⟩
   have HB1 : Hid (BW B b (l ++ [123]) w1 ∧ ChgP (bldSet B b wq) wq w1 ∧ B ≤ w1.heap.size) := Lib.hid ⟨h1, bset_trans HBq.out.2.1 hc1, by have := HBq.out.2.2; omega⟩
   clear h1 hc1 hz1
   obtain ⟨b0, b1, b2, b3, b4⟩ := box_kept B1 (box_bk Hbb.out (Nat.ne_of_gt Hb1.out) HB1.out.2.1) (Chg.refl [] _)
   have HM : Hid ((l ++ [123]) ++ encL 5 0 ns (es.drop 0) = l ++ 123 :: encL 5 0 ns es) := Lib.hid (by simp)
   go_wp2_with fail
   go_loopw [17] (fun ii wr => ∃ (i : Nat) (m : List UInt8), i ≤ es.length ∧ ii = .int .i64 (i : Nat) ∧ Hid (BW B b m wr ∧ ChgP (bldSet B b wq) wq wr ∧ B ≤ wr.heap.size) ∧ Hid (m ++ encL 5 i ns (es.drop i) = l ++ 123 :: encL 5 0 ns es)) (fun ii _ => es.length - (intOf ii).toNat)
   case atStart => exact ⟨0, _, by omega, rfl, HB1, HM⟩
   case round =>
    obtain ⟨i, m, hi, rfl, HB, HM⟩ := hrel
    obtain ⟨b0, b1, b2, b3, b4⟩ := box_kept B1 (box_bk Hbb.out (Nat.ne_of_gt Hb1.out) HB.out.2.1) (Chg.refl [] _)
    by_cases hlt : i < es.length
    · have hij : (i : Int) < es.length := by omega
      have hi0 : (0 : Int) ≤ i := by omega
      have hd := encL_drop (k := 5) (ns := ns) hlt
      rw [if_pos rfl] at hd
      have hin : i < ns.length := by have := Hnl.out; omega
      have hin1 : (i : Int) < ns.length := by omega
      obtain ⟨gn, offn, rfl, hpn, q0, _⟩ := SlR.at Hns.out i hin ⟨#[]⟩
      rw [Nat.mul_one] at q0
      obtain ⟨nm, hnm⟩ : ∃ x, x = ns.getD i ⟨#[]⟩ := ⟨_, rfl⟩
      rw [← hnm] at q0 hd
      have hnms : nm.size ≤ maxLen := by rw [hnm]; exact Hnz.out _ (getD_memb hin _)
      have Hnm := Lib.hid hnms
      have Hg1 := Lib.hid (Hp.out.1 gn hpn)
      have hesr : SlR p 5 (rdJ p f) wr (.slice a es.length cap) es := SlR.imp Hes.out (fun _ h => h) fun ad x hpx hx => rdJ.kept HB.out.2.1 (fun g hg => bset_below (Hp.out.1 g hg)) hpx hx
      obtain ⟨g, off, na', nc', ia', ic', rfl, hpg, e0, e1, e2, e3, e4, f', rfl, hjv⟩ := elem_at hesr hlt
      obtain ⟨el, hel⟩ : ∃ el, el = es[i] := ⟨_, rfl⟩
      rw [← hel] at e0 e1 e2 e3 e4 hjv hd
      have hsm : Sm el := Hs.out.elem (hel ▸ List.getElem_mem hlt)
      obtain ⟨ek, hek⟩ : ∃ x, x = el.kind := ⟨_, rfl⟩
      obtain ⟨en, hen⟩ : ∃ x, x = el.num := ⟨_, rfl⟩
      obtain ⟨et, het⟩ : ∃ x, x = el.text := ⟨_, rfl⟩
      rw [← hek] at e0 hjv
      rw [← hen] at e1 hjv
      rw [← het] at e2 hjv
      obtain ⟨nl, hnl⟩ : ∃ x, x = el.names.length := ⟨_, rfl⟩
      obtain ⟨il, hil⟩ : ∃ x, x = el.elems.length := ⟨_, rfl⟩
      rw [← hnl] at e3 hjv
      rw [← hil] at e4 hjv
      obtain ⟨w4, hw4⟩ : ∃ x, x = wr.alloc (.cells #[.int .i64 ek, .int .i64 en, .string et, .slice na' nl nc', .slice ia' il ic'] 59) := ⟨_, rfl⟩
      obtain ⟨q, hq⟩ : ∃ x, x = wr.heap.size := ⟨_, rfl⟩
      have hc4 : Chg [] wr w4 := by rw [hw4]; exact (Chg.refl _ _).alloc _
      have hbq : w4.heap[q]? = some (.cells #[.int .i64 ek, .int .i64 en, .string et, .slice na' nl nc', .slice ia' il ic'] 59 (0, 0)) := by rw [hw4, hq]; exact heap_at _ _ _ rfl
      obtain ⟨x0, x1, x2, x3, x4⟩ := box_kept q hbq (Chg.refl [] w4)
      have hbb4 := (hc4.block _ (lt_of_obj (box_bk Hbb.out (Nat.ne_of_gt Hb1.out) HB.out.2.1)) (by simp)).trans (box_bk Hbb.out (Nat.ne_of_gt Hb1.out) HB.out.2.1)
      obtain ⟨b0, b1, b2, b3, b4⟩ := box_kept B1 hbb4 (Chg.refl [] w4)
      replace q0 := (hc4.cell (lt_of_cell (cells_bk q0 Hg1.out HB.out.2.1)) (by simp)).trans (cells_bk q0 Hg1.out HB.out.2.1)
      have HB4 : Hid (BW B b m w4 ∧ ChgP (bldSet B b w4) w4 w4 ∧ B ≤ w4.heap.size) := Lib.hid ⟨HB.out.1.same hc4, ChgP.refl _ _, Nat.le_trans HB.out.2.2 hc4.size⟩
      have HW4 := Lib.hid (bset_new HB.out.2.1 hc4)
      have Hbb4 := Lib.hid hbb4
      have Hbq := Lib.hid hbq
      have Hq1 := Lib.hid (show b < q by rw [hq]; exact HB.out.1.lt.1)
      have Hjv := Lib.hid (hjv.kept (S := fun _ => False) hc4.p (fun _ _ h => h))
      have Hsm := Lib.hid hsm
      have HP4 := Lib.hid ((HP.out.kept HB.out.2.1 (bset_below Hp.out.2)).kept (S := fun _ => False) hc4.p (fun h => h))
      have lx := lt_of_cell x0
      have hM := HM.out
      rw [hd] at hM
      have hsz : m.length + (encL 5 i ns (es.drop i)).length = l.length + 1 + (encL 5 0 ns es).length := by have := congrArg List.length HM.out; simp at this; omega
      rw [hd] at hsz
      have hln := Hlen.out
      clear hesr hel hek hen het hnl hil hjv hpg hsm hc4 hbq hbb4 hd hnm hnms hpn
      go_upto_region 8 with fail
      rw [← hw4, ← hq]
      clear hw4 hq e0 e1 e2 e3 e4 HP HB HM
      obtain ⟨Hbb, HP⟩ := And.intro Hbb4 HP4
      by_cases hz : i = 0
      · have hip : ¬ ((0 : Int) < i) := by omega
        have hip2 : ¬ 0 < i := by omega
        clear hz
        rw [if_neg hip2, List.nil_append] at hM hsz
        have Hsz := Lib.hid hsz
        have HM2 := Lib.hid hM
        have Hln := Lib.hid hln
        clear hM hsz hln
        have x0' := (cells_bk q0 Hg1.out HB4.out.2.1)
        go_wp2_with fail
        refine (encS_any B b (m) nm _ HB4.out.1 (by have h1 := Hsz.out; have h2 := Hln.out; simp at h1 ⊢; omega) HB4.out.2.2 Hnm.out).mono ?_
        rintro e w6 ⟨rfl, h1, hc1, hz1⟩
        have HB6 : Hid (BW B b ((m) ++ encS nm) w6 ∧ ChgP (bldSet B b w4) w4 w6 ∧ B ≤ w6.heap.size) := Lib.hid ⟨h1, bset_trans HB4.out.2.1 hc1, by have := HB4.out.2.2; omega⟩
        clear h1 hc1 hz1
        obtain ⟨b0, b1, b2, b3, b4⟩ := box_kept B1 (box_bk Hbb.out (Nat.ne_of_gt Hb1.out) HB6.out.2.1) (Chg.refl [] _)
        obtain ⟨x0, x1, x2, x3, x4⟩ := box_kept q (box_bk Hbq.out (Nat.ne_of_gt Hq1.out) HB6.out.2.1) (Chg.refl [] _)
        go_wp2_with fail
        refine (wb_any B b ((m) ++ encS nm) 58 _ HB6.out.1 (by decide) (by have h1 := Hsz.out; have h2 := Hln.out; simp at h1 ⊢; omega) HB6.out.2.2).mono ?_
        rintro e w7 ⟨rfl, h1, hc1, hz1⟩
        have HB7 : Hid (BW B b (((m) ++ encS nm) ++ [58]) w7 ∧ ChgP (bldSet B b w4) w4 w7 ∧ B ≤ w7.heap.size) := Lib.hid ⟨h1, bset_trans HB6.out.2.1 hc1, by have := HB6.out.2.2; omega⟩
        clear h1 hc1 hz1
        obtain ⟨b0, b1, b2, b3, b4⟩ := box_kept B1 (box_bk Hbb.out (Nat.ne_of_gt Hb1.out) HB7.out.2.1) (Chg.refl [] _)
        obtain ⟨x0, x1, x2, x3, x4⟩ := box_kept q (box_bk Hbq.out (Nat.ne_of_gt Hq1.out) HB7.out.2.1) (Chg.refl [] _)
        go_wp2_with fail
        refine (ih f' (by omega) _ el _ (((m) ++ encS nm) ++ [58]) (Hjv.out.bk Hp.out.1 HB7.out.2.1) Hsm.out HB7.out.1 HB7.out.2.2 (HP.out.kept HB7.out.2.1 (bset_below Hp.out.2)) (by have h1 := Hsz.out; have h2 := Hln.out; simp at h1 ⊢; omega)).mono ?_
        rintro e w8 ⟨rfl, h1, hc1, hz1⟩
        have HB8 : Hid (BW B b ((((m) ++ encS nm) ++ [58]) ++ el.enc) w8 ∧ ChgP (bldSet B b w4) w4 w8 ∧ B ≤ w8.heap.size) := Lib.hid ⟨h1, bset_trans HB7.out.2.1 hc1, by have := HB7.out.2.2; omega⟩
        clear h1 hc1 hz1
        go_wp2_with fail
        exact ⟨⟨i + 1, _, by omega, by go_num, Lib.hid ⟨HB8.out.1, bset_trans HW4.out HB8.out.2.1, HB8.out.2.2⟩, Lib.hid (by have := HM2.out; simpa using this)⟩, by simp [intOf]; omega⟩
      · have hip : (0 : Int) < i := by omega
        have hip2 : 0 < i := by omega
        rw [if_pos hip2] at hM hsz
        have Hsz := Lib.hid hsz
        have HM2 := Lib.hid hM
        have Hln := Lib.hid hln
        clear hM hsz hln hz
        go_wp2_with fail
        refine (wb_any B b (m) 44 _ HB4.out.1 (by decide) (by have h1 := Hsz.out; have h2 := Hln.out; simp at h1 ⊢; omega) HB4.out.2.2).mono ?_
        rintro e w5 ⟨rfl, h1, hc1, hz1⟩
        have HB5 : Hid (BW B b (m ++ [44]) w5 ∧ ChgP (bldSet B b w4) w4 w5 ∧ B ≤ w5.heap.size) := Lib.hid ⟨h1, bset_trans HB4.out.2.1 hc1, by have := HB4.out.2.2; omega⟩
        clear h1 hc1 hz1
        obtain ⟨b0, b1, b2, b3, b4⟩ := box_kept B1 (box_bk Hbb.out (Nat.ne_of_gt Hb1.out) HB5.out.2.1) (Chg.refl [] _)
        obtain ⟨x0, x1, x2, x3, x4⟩ := box_kept q (box_bk Hbq.out (Nat.ne_of_gt Hq1.out) HB5.out.2.1) (Chg.refl [] _)
        have x0' := (cells_bk q0 Hg1.out HB5.out.2.1)
        go_wp2_with fail
        refine (encS_any B b (m ++ [44]) nm _ HB5.out.1 (by have h1 := Hsz.out; have h2 := Hln.out; simp at h1 ⊢; omega) HB5.out.2.2 Hnm.out).mono ?_
        rintro e w6 ⟨rfl, h1, hc1, hz1⟩
        have HB6 : Hid (BW B b ((m ++ [44]) ++ encS nm) w6 ∧ ChgP (bldSet B b w4) w4 w6 ∧ B ≤ w6.heap.size) := Lib.hid ⟨h1, bset_trans HB5.out.2.1 hc1, by have := HB5.out.2.2; omega⟩
        clear h1 hc1 hz1
        obtain ⟨b0, b1, b2, b3, b4⟩ := box_kept B1 (box_bk Hbb.out (Nat.ne_of_gt Hb1.out) HB6.out.2.1) (Chg.refl [] _)
        obtain ⟨x0, x1, x2, x3, x4⟩ := box_kept q (box_bk Hbq.out (Nat.ne_of_gt Hq1.out) HB6.out.2.1) (Chg.refl [] _)
        go_wp2_with fail
        refine (wb_any B b ((m ++ [44]) ++ encS nm) 58 _ HB6.out.1 (by decide) (by have h1 := Hsz.out; have h2 := Hln.out; simp at h1 ⊢; omega) HB6.out.2.2).mono ?_
        rintro e w7 ⟨rfl, h1, hc1, hz1⟩
        have HB7 : Hid (BW B b (((m ++ [44]) ++ encS nm) ++ [58]) w7 ∧ ChgP (bldSet B b w4) w4 w7 ∧ B ≤ w7.heap.size) := Lib.hid ⟨h1, bset_trans HB6.out.2.1 hc1, by have := HB6.out.2.2; omega⟩
        clear h1 hc1 hz1
        obtain ⟨b0, b1, b2, b3, b4⟩ := box_kept B1 (box_bk Hbb.out (Nat.ne_of_gt Hb1.out) HB7.out.2.1) (Chg.refl [] _)
        obtain ⟨x0, x1, x2, x3, x4⟩ := box_kept q (box_bk Hbq.out (Nat.ne_of_gt Hq1.out) HB7.out.2.1) (Chg.refl [] _)
        go_wp2_with fail
        refine (ih f' (by omega) _ el _ (((m ++ [44]) ++ encS nm) ++ [58]) (Hjv.out.bk Hp.out.1 HB7.out.2.1) Hsm.out HB7.out.1 HB7.out.2.2 (HP.out.kept HB7.out.2.1 (bset_below Hp.out.2)) (by have h1 := Hsz.out; have h2 := Hln.out; simp at h1 ⊢; omega)).mono ?_
        rintro e w8 ⟨rfl, h1, hc1, hz1⟩
        have HB8 : Hid (BW B b ((((m ++ [44]) ++ encS nm) ++ [58]) ++ el.enc) w8 ∧ ChgP (bldSet B b w4) w4 w8 ∧ B ≤ w8.heap.size) := Lib.hid ⟨h1, bset_trans HB7.out.2.1 hc1, by have := HB7.out.2.2; omega⟩
        clear h1 hc1 hz1
        go_wp2_with fail
        exact ⟨⟨i + 1, _, by omega, by go_num, Lib.hid ⟨HB8.out.1, bset_trans HW4.out HB8.out.2.1, HB8.out.2.2⟩, Lib.hid (by have := HM2.out; simpa using this)⟩, by simp [intOf]; omega⟩
    · obtain rfl : i = es.length := by omega
      have hM := HM.out
      rw [List.drop_length, encL, List.append_nil] at hM
      subst hM
      go_wp2_with fail
      refine (wb_any B b _ 125 wr HB.out.1 (by decide) (by have := Hlen.out; simp at this ⊢; omega) HB.out.2.2).mono ?_
      rintro e w2 ⟨rfl, h1, hc1, hz1⟩
      have HB2 : Hid (BW B b (l ++ encE (J.mk 5 n t ns es)) w2 ∧ ChgP (bldSet B b w) w w2) := Lib.hid ⟨by have := h1; rw [HE.out]; simpa using this, bset_pre Hcq.out (bset_trans HB.out.2.1 hc1)⟩
      clear h1 hc1 hz1
      go_wp2_with fail
      go_end0
      exact ⟨rfl, HB2.out.1, HB2.out.2, HB2.out.2.size⟩
 · have hkd : decide (k = 5) = false := decide_eq_false hk
   have hkb : (k == 5) = false := by simpa using hk
   rw [if_neg hk, if_neg hk] at HE
   have Hk := Lib.hid hk
   clear hk
   go_wp2_with fail
   refine (wb_any B b l 91 _ HBq.out.1 (by decide) (by have := Hlen.out; omega) HBq.out.2.2).mono ?_
   rintro e w1 ⟨rfl, h1, hc1, hz1⟩
   have HB1 : Hid (BW B b (l ++ [91]) w1 ∧ ChgP (bldSet B b wq) wq w1 ∧ B ≤ w1.heap.size) := Lib.hid ⟨h1, bset_trans HBq.out.2.1 hc1, by have := HBq.out.2.2; omega⟩
   clear h1 hc1 hz1
   obtain ⟨b0, b1, b2, b3, b4⟩ := box_kept B1 (box_bk Hbb.out (Nat.ne_of_gt Hb1.out) HB1.out.2.1) (Chg.refl [] _)
   have HM : Hid ((l ++ [91]) ++ encL k 0 ns (es.drop 0) = l ++ 91 :: encL k 0 ns es) := Lib.hid (by simp)
   go_wp2_with fail
   go_loopw [17] (fun ii wr => ∃ (i : Nat) (m : List UInt8), i ≤ es.length ∧ ii = .int .i64 (i : Nat) ∧ Hid (BW B b m wr ∧ ChgP (bldSet B b wq) wq wr ∧ B ≤ wr.heap.size) ∧ Hid (m ++ encL k i ns (es.drop i) = l ++ 91 :: encL k 0 ns es)) (fun ii _ => es.length - (intOf ii).toNat)
   case atStart => exact ⟨0, _, by omega, rfl, HB1, HM⟩
   case round =>
    obtain ⟨i, m, hi, rfl, HB, HM⟩ := hrel
    obtain ⟨b0, b1, b2, b3, b4⟩ := box_kept B1 (box_bk Hbb.out (Nat.ne_of_gt Hb1.out) HB.out.2.1) (Chg.refl [] _)
    by_cases hlt : i < es.length
    · have hij : (i : Int) < es.length := by omega
      have hi0 : (0 : Int) ≤ i := by omega
      have hd := encL_drop (k := k) (ns := ns) hlt
      rw [if_neg Hk.out, List.append_nil] at hd
      have hesr : SlR p 5 (rdJ p f) wr (.slice a es.length cap) es := SlR.imp Hes.out (fun _ h => h) fun ad x hpx hx => rdJ.kept HB.out.2.1 (fun g hg => bset_below (Hp.out.1 g hg)) hpx hx
      obtain ⟨g, off, na', nc', ia', ic', rfl, hpg, e0, e1, e2, e3, e4, f', rfl, hjv⟩ := elem_at hesr hlt
      obtain ⟨el, hel⟩ : ∃ el, el = es[i] := ⟨_, rfl⟩
      rw [← hel] at e0 e1 e2 e3 e4 hjv hd
      have hsm : Sm el := Hs.out.elem (hel ▸ List.getElem_mem hlt)
      obtain ⟨ek, hek⟩ : ∃ x, x = el.kind := ⟨_, rfl⟩
      obtain ⟨en, hen⟩ : ∃ x, x = el.num := ⟨_, rfl⟩
      obtain ⟨et, het⟩ : ∃ x, x = el.text := ⟨_, rfl⟩
      rw [← hek] at e0 hjv
      rw [← hen] at e1 hjv
      rw [← het] at e2 hjv
      obtain ⟨nl, hnl⟩ : ∃ x, x = el.names.length := ⟨_, rfl⟩
      obtain ⟨il, hil⟩ : ∃ x, x = el.elems.length := ⟨_, rfl⟩
      rw [← hnl] at e3 hjv
      rw [← hil] at e4 hjv
      obtain ⟨w4, hw4⟩ : ∃ x, x = wr.alloc (.cells #[.int .i64 ek, .int .i64 en, .string et, .slice na' nl nc', .slice ia' il ic'] 59) := ⟨_, rfl⟩
      obtain ⟨q, hq⟩ : ∃ x, x = wr.heap.size := ⟨_, rfl⟩
      have hc4 : Chg [] wr w4 := by rw [hw4]; exact (Chg.refl _ _).alloc _
      have hbq : w4.heap[q]? = some (.cells #[.int .i64 ek, .int .i64 en, .string et, .slice na' nl nc', .slice ia' il ic'] 59 (0, 0)) := by rw [hw4, hq]; exact heap_at _ _ _ rfl
      obtain ⟨x0, x1, x2, x3, x4⟩ := box_kept q hbq (Chg.refl [] w4)
      have hbb4 := (hc4.block _ (lt_of_obj (box_bk Hbb.out (Nat.ne_of_gt Hb1.out) HB.out.2.1)) (by simp)).trans (box_bk Hbb.out (Nat.ne_of_gt Hb1.out) HB.out.2.1)
      obtain ⟨b0, b1, b2, b3, b4⟩ := box_kept B1 hbb4 (Chg.refl [] w4)
      have HB4 : Hid (BW B b m w4 ∧ ChgP (bldSet B b w4) w4 w4 ∧ B ≤ w4.heap.size) := Lib.hid ⟨HB.out.1.same hc4, ChgP.refl _ _, Nat.le_trans HB.out.2.2 hc4.size⟩
      have HW4 := Lib.hid (bset_new HB.out.2.1 hc4)
      have Hbb4 := Lib.hid hbb4
      have Hbq := Lib.hid hbq
      have Hq1 := Lib.hid (show b < q by rw [hq]; exact HB.out.1.lt.1)
      have Hjv := Lib.hid (hjv.kept (S := fun _ => False) hc4.p (fun _ _ h => h))
      have Hsm := Lib.hid hsm
      have HP4 := Lib.hid ((HP.out.kept HB.out.2.1 (bset_below Hp.out.2)).kept (S := fun _ => False) hc4.p (fun h => h))
      have lx := lt_of_cell x0
      have hM := HM.out
      rw [hd] at hM
      have hsz : m.length + (encL k i ns (es.drop i)).length = l.length + 1 + (encL k 0 ns es).length := by have := congrArg List.length HM.out; simp at this; omega
      rw [hd] at hsz
      have hln := Hlen.out
      clear hesr hel hek hen het hnl hil hjv hpg hsm hc4 hbq hbb4 hd 
      go_upto_region 8 with fail
      rw [← hw4, ← hq]
      clear hw4 hq e0 e1 e2 e3 e4 HP HB HM
      obtain ⟨Hbb, HP⟩ := And.intro Hbb4 HP4
      by_cases hz : i = 0
      · have hip : ¬ ((0 : Int) < i) := by omega
        have hip2 : ¬ 0 < i := by omega
        clear hz
        rw [if_neg hip2, List.nil_append] at hM hsz
        have Hsz := Lib.hid hsz
        have HM2 := Lib.hid hM
        have Hln := Lib.hid hln
        clear hM hsz hln
        go_wp2_with fail
        refine (ih f' (by omega) _ el _ (m) (Hjv.out.bk Hp.out.1 HB4.out.2.1) Hsm.out HB4.out.1 HB4.out.2.2 (HP.out.kept HB4.out.2.1 (bset_below Hp.out.2)) (by have h1 := Hsz.out; have h2 := Hln.out; simp at h1 ⊢; omega)).mono ?_
        rintro e w8 ⟨rfl, h1, hc1, hz1⟩
        have HB8 : Hid (BW B b ((m) ++ el.enc) w8 ∧ ChgP (bldSet B b w4) w4 w8 ∧ B ≤ w8.heap.size) := Lib.hid ⟨h1, bset_trans HB4.out.2.1 hc1, by have := HB4.out.2.2; omega⟩
        clear h1 hc1 hz1
        go_wp2_with fail
        exact ⟨⟨i + 1, _, by omega, by go_num, Lib.hid ⟨HB8.out.1, bset_trans HW4.out HB8.out.2.1, HB8.out.2.2⟩, Lib.hid (by have := HM2.out; simpa using this)⟩, by simp [intOf]; omega⟩
      · have hip : (0 : Int) < i := by omega
        have hip2 : 0 < i := by omega
        rw [if_pos hip2] at hM hsz
        have Hsz := Lib.hid hsz
        have HM2 := Lib.hid hM
        have Hln := Lib.hid hln
        clear hM hsz hln hz
        go_wp2_with fail
        refine (wb_any B b (m) 44 _ HB4.out.1 (by decide) (by have h1 := Hsz.out; have h2 := Hln.out; simp at h1 ⊢; omega) HB4.out.2.2).mono ?_
        rintro e w5 ⟨rfl, h1, hc1, hz1⟩
        have HB5 : Hid (BW B b (m ++ [44]) w5 ∧ ChgP (bldSet B b w4) w4 w5 ∧ B ≤ w5.heap.size) := Lib.hid ⟨h1, bset_trans HB4.out.2.1 hc1, by have := HB4.out.2.2; omega⟩
        clear h1 hc1 hz1
        obtain ⟨b0, b1, b2, b3, b4⟩ := box_kept B1 (box_bk Hbb.out (Nat.ne_of_gt Hb1.out) HB5.out.2.1) (Chg.refl [] _)
        obtain ⟨x0, x1, x2, x3, x4⟩ := box_kept q (box_bk Hbq.out (Nat.ne_of_gt Hq1.out) HB5.out.2.1) (Chg.refl [] _)
        go_wp2_with fail
        refine (ih f' (by omega) _ el _ (m ++ [44]) (Hjv.out.bk Hp.out.1 HB5.out.2.1) Hsm.out HB5.out.1 HB5.out.2.2 (HP.out.kept HB5.out.2.1 (bset_below Hp.out.2)) (by have h1 := Hsz.out; have h2 := Hln.out; simp at h1 ⊢; omega)).mono ?_
        rintro e w8 ⟨rfl, h1, hc1, hz1⟩
        have HB8 : Hid (BW B b ((m ++ [44]) ++ el.enc) w8 ∧ ChgP (bldSet B b w4) w4 w8 ∧ B ≤ w8.heap.size) := Lib.hid ⟨h1, bset_trans HB5.out.2.1 hc1, by have := HB5.out.2.2; omega⟩
        clear h1 hc1 hz1
        go_wp2_with fail
        exact ⟨⟨i + 1, _, by omega, by go_num, Lib.hid ⟨HB8.out.1, bset_trans HW4.out HB8.out.2.1, HB8.out.2.2⟩, Lib.hid (by have := HM2.out; simpa using this)⟩, by simp [intOf]; omega⟩
    · obtain rfl : i = es.length := by omega
      have hM := HM.out
      rw [List.drop_length, encL, List.append_nil] at hM
      subst hM
      go_wp2_with fail
      refine (wb_any B b _ 93 wr HB.out.1 (by decide) (by have := Hlen.out; simp at this ⊢; omega) HB.out.2.2).mono ?_
      rintro e w2 ⟨rfl, h1, hc1, hz1⟩
      have HB2 : Hid (BW B b (l ++ encE (J.mk k n t ns es)) w2 ∧ ChgP (bldSet B b w) w w2) := Lib.hid ⟨by have := h1; rw [HE.out]; simpa using this, bset_pre Hcq.out (bset_trans HB.out.2.1 hc1)⟩
      clear h1 hc1 hz1
      go_wp2_with fail
      go_end0
      exact ⟨rfl, HB2.out.1, HB2.out.2, HB2.out.2.size⟩
theorem Sm.kind {k n : Int} {t : ByteArray} {ns : List ByteArray} {es : List J} (h : Sm (.mk k n t ns es)) : (0 ≤ k ∧ k < 6) ∧ (k = 2 → -9007199254740991 ≤ n ∧ n ≤ 9007199254740991) := by
 obtain ⟨h1, hw, _⟩ := vd_zero.1 h.1
 refine ⟨h1, fun hk => ?_⟩
 subst hk
 unfold wf at hw
 simp only [Bool.and_eq_true, decide_eq_true_eq] at hw
 obtain ⟨⟨⟨⟨⟨⟨h2, _⟩, _⟩, _⟩, _⟩, _⟩, _⟩ := hw
 simpa using h2
set_option maxRecDepth 100000 in
set_option maxHeartbeats 8000000 in
theorem enc_step (p : Nat → Prop) (B b f : Nat) (hp : (∀ g, p g → g < B) ∧ 3 < B) (ih : ∀ f', f' < f → EncAt 76 J.enc p B b f') : EncAt 76 J.enc p B b f := by
 intro w j v l hj hs hb hBw hP hlen
 have hel := elems_step p B b f hp ih
 obtain ⟨k, n, t, ns, es⟩ := j
 obtain ⟨na, nc, a, cap, rfl, hns, hes, ⟨hn1, hn2⟩, ⟨hl1, hl2⟩, hts⟩ := hj.shape
 simp only [J.kind, J.num, J.text, J.names, J.elems] at hns hes hl1 hl2 hts hj hn1 hn2 ⊢
 obtain ⟨wq, hwq⟩ : ∃ x, x = w.alloc (.cells #[.int .i64 k, .int .i64 n, .string t, .slice na ns.length nc, .slice a es.length cap] 59) := ⟨_, rfl⟩
 obtain ⟨B1, hB1⟩ : ∃ x, x = w.heap.size := ⟨_, rfl⟩
 have hcq : Chg [] w wq := by rw [hwq]; exact (Chg.refl _ _).alloc _
 have hbb : wq.heap[B1]? = some (.cells #[.int .i64 k, .int .i64 n, .string t, .slice na ns.length nc, .slice a es.length cap] 59 (0, 0)) := by rw [hwq, hB1]; exact heap_at _ _ _ rfl
 obtain ⟨b0, b1, b2, b3, b4⟩ := box_kept B1 hbb (Chg.refl [] wq)
 have lb := lt_of_cell b0
 obtain ⟨hk, hn⟩ := hs.kind
 have HBq := Lib.hid (And.intro (hb.same hcq) (Nat.le_trans hBw hcq.size))
 have Hcq := Lib.hid hcq
 have Hbb := Lib.hid hbb
 have HE : Hid ((J.mk k n t ns es).enc = if k = 0 then [110, 117, 108, 108] else if k = 1 then Lib.formatBool (decide (n = 1)) else if k = 2 then Lib.itoa n else if k = 3 then encS t else encE (J.mk k n t ns es)) := Lib.hid (by rw [J.enc, encE])
 have Hlen := Lib.hid hlen
 have Hts := Lib.hid hts
 have Hn := Lib.hid hn
 have HP := Lib.hid (hP.kept (S := fun _ => False) hcq.p (fun h => h))
 have Hel := Lib.hid (fun m => hel wq _ _ m (hj.kept (S := fun _ => False) hcq.p (fun _ _ h => h)) hs)
 clear hj hs hb hBw hP hlen hes hns hcq hbb hp hel hts hn
 go_enter Tryz.func76, Tryz.ntmps76
 go_upto_region 1 with fail
 rw [← hwq, ← hB1]
 clear hwq hB1
 rcases (by omega : k = 0 ∨ k = 1 ∨ k = 2 ∨ k = 3 ∨ k = 4 ∨ k = 5) with rfl | rfl | rfl | rfl | rfl | rfl
 · rw [if_pos rfl] at HE
   rw [HE.out] at Hlen
   go_wp2_with fail
   refine (ws_any B b l ⟨#[110, 117, 108, 108]⟩ wq HBq.out.1 (by have := Hlen.out; exact this) HBq.out.2).mono ?_
   rintro e w2 ⟨rfl, h1, hc1, hz1⟩
   have HB2 : Hid (BW B b (l ++ [110, 117, 108, 108]) w2 ∧ ChgP (bldSet B b w) w w2) := Lib.hid ⟨h1, bset_pre Hcq.out hc1⟩
   clear h1 hc1 hz1
   go_wp2_with fail
   go_end0
   exact ⟨rfl, by rw [HE.out]; exact HB2.out.1, HB2.out.2, HB2.out.2.size⟩
 · rw [if_neg (by decide), if_pos rfl] at HE
   rw [HE.out] at Hlen
   obtain ⟨q, hq⟩ : ∃ q, q = decide (n = 1) := ⟨_, rfl⟩
   rw [← hq] at Hlen HE
   have hq2 : (n == 1) = q := by rw [hq]; rfl
   have Hfb := Lib.hid (Tryz.strconv_FormatBool q)
   clear hq
   go_wp2_with fail
   refine (Hfb.out wq).mono ?_
   rintro e w' ⟨rfl, rfl⟩
   go_wp2_with fail
   refine (ws_any B b l _ w' HBq.out.1 (by have := Hlen.out; exact this) HBq.out.2).mono ?_
   rintro e w2 ⟨rfl, h1, hc1, hz1⟩
   have HB2 : Hid (BW B b (l ++ Lib.formatBool q) w2 ∧ ChgP (bldSet B b w) w w2) := Lib.hid ⟨h1, bset_pre Hcq.out hc1⟩
   clear h1 hc1 hz1
   go_wp2_with fail
   go_end0
   exact ⟨rfl, by rw [HE.out]; exact HB2.out.1, HB2.out.2, HB2.out.2.size⟩
 · rw [if_neg (by decide), if_neg (by decide), if_pos rfl] at HE
   rw [HE.out] at Hlen
   go_wp2_with fail
   refine (itoa_any n wq (Hn.out (by first | trivial | rfl)).1 (Hn.out (by first | trivial | rfl)).2 HP.out).mono ?_
   rintro e w1 ⟨rfl, hc1⟩
   have HB1 := Lib.hid (And.intro (HBq.out.1.same hc1) (And.intro (Nat.le_trans HBq.out.2 hc1.size) (Hcq.out.trans hc1)))
   clear hc1
   go_wp2_with fail
   refine (ws_any B b l _ w1 HB1.out.1 (by have := Hlen.out; exact this) HB1.out.2.1).mono ?_
   rintro e w2 ⟨rfl, h1, hc1, hz1⟩
   have HB2 : Hid (BW B b (l ++ Lib.itoa n) w2 ∧ ChgP (bldSet B b w) w w2) := Lib.hid ⟨h1, bset_pre HB1.out.2.2 hc1⟩
   clear h1 hc1 hz1
   go_wp2_with fail
   go_end0
   exact ⟨rfl, by rw [HE.out]; exact HB2.out.1, HB2.out.2, HB2.out.2.size⟩
 · rw [if_neg (by decide), if_neg (by decide), if_neg (by decide), if_pos rfl] at HE
   rw [HE.out] at Hlen
   go_wp2_with fail
   refine (encS_any B b l t wq HBq.out.1 Hlen.out HBq.out.2 Hts.out).mono ?_
   rintro e w2 ⟨rfl, h1, hc1, hz1⟩
   have HB2 : Hid (BW B b (l ++ encS t) w2 ∧ ChgP (bldSet B b w) w w2) := Lib.hid ⟨h1, bset_pre Hcq.out hc1⟩
   clear h1 hc1 hz1
   go_wp2_with fail
   go_end0
   exact ⟨rfl, by rw [HE.out]; exact HB2.out.1, HB2.out.2, HB2.out.2.size⟩
 all_goals
  rw [if_neg (by decide), if_neg (by decide), if_neg (by decide), if_neg (by decide)] at HE
  rw [HE.out] at Hlen
  go_wp2_with fail
  refine (Hel.out l HBq.out.1 HBq.out.2 HP.out Hlen.out).mono ?_
  rintro e w2 ⟨rfl, h1, hc1, hz1⟩
  have HB2 := Lib.hid (And.intro h1 (bset_pre Hcq.out hc1))
  clear h1 hc1 hz1
  go_wp2_with fail
  go_end0
  exact ⟨rfl, by rw [HE.out]; exact HB2.out.1, HB2.out.2, HB2.out.2.size⟩
theorem enc_any (p : Nat → Prop) (B b : Nat) (hp : (∀ g, p g → g < B) ∧ 3 < B) : ∀ f, EncAt 76 J.enc p B b f := by
 intro f
 induction f using Nat.strongRecOn with
 | ind f ih => exact enc_step p B b f hp ih
theorem chg_below {B b : Nat} {w w3 w4 w5 : World} (h1 : Chg [] w w3) (h2 : ChgP (bldSet B b w3) w3 w4) (h3 : Below B w4 w5) (hB : w.heap.size ≤ B) : Chg [] w w5 :=
 ⟨h3.os.trans (h2.os.trans h1.os), h3.tape.trans (h2.tape.trans h1.tape), h3.output.trans (h2.output.trans h1.output), Nat.le_trans h1.size (Nat.le_trans h2.size h3.size), fun k hk _ =>
  (h3.block k (by omega)).trans ((h2.block k (Nat.lt_of_lt_of_le hk h1.size) (bset_below (by omega))).trans (h1.block k hk (by simp)))⟩
def J.encode (j : J) : ByteArray × Int := if j.valid u8 ≠ 0 then (⟨#[]⟩, j.valid u8) else if 4000 < j.enc.length then (⟨#[]⟩, 2) else (⟨j.enc.toArray⟩, 0)
def EncodePost (j : J) (w : World) (e : Ending) (w' : World) : Prop := e = .returned (.tuple #[.string j.encode.1, .int .i64 j.encode.2]) ∧ Chg [] w w'
set_option maxRecDepth 100000 in
set_option maxHeartbeats 8000000 in
theorem Encode_any (p : Nat → Prop) (f : Nat) (w : World) (j : J) (v : Value) (hj : JV p f w v j) (hp : ∀ g, p g → g < w.heap.size) (hT : Tb w) (hP : P10 w) (hlen : j.valid u8 = 0 → j.enc.length ≤ 140737488355328) :
 Calls Tryz.prog 42 #[v] w (EncodePost j w) := by
 obtain ⟨ev, rfl⟩ := hj.ev'
 unfold Ev.val at *
 obtain ⟨wq, hwq⟩ : ∃ x, x = w.alloc (.cells #[.int .i64 ev.k, .int .i64 ev.n, .string ev.t, .slice ev.na ev.nl ev.nc, .slice ev.ia ev.il ev.ic] 59) := ⟨_, rfl⟩
 obtain ⟨B1, hB1⟩ : ∃ x, x = w.heap.size := ⟨_, rfl⟩
 have hcq : Chg [] w wq := by rw [hwq]; exact (Chg.refl _ _).alloc _
 have hbb : wq.heap[B1]? = some (.cells #[.int .i64 ev.k, .int .i64 ev.n, .string ev.t, .slice ev.na ev.nl ev.nc, .slice ev.ia ev.il ev.ic] 59 (0, 0)) := by rw [hwq, hB1]; exact heap_at _ _ _ rfl
 obtain ⟨b0, b1, b2, b3, b4⟩ := box_kept B1 hbb (Chg.refl [] wq)
 have lb := lt_of_cell b0
 have Hcq := Lib.hid hcq
 have Hbb := Lib.hid hbb
 have Hj := Lib.hid hj
 have Hp := Lib.hid hp
 have HT := Lib.hid hT
 have HP := Lib.hid hP
 have Hlen := Lib.hid hlen
 have HB := Lib.hid hB1
 have Hva := Lib.hid (Validate_any p f wq j _ (hj.kept (S := fun _ => False) hcq.p (fun _ _ h => h)) (hT.new hcq) (fun g hg => Nat.lt_of_lt_of_le (hp g hg) hcq.size))
 have HE : Hid (j.encode = if j.valid u8 ≠ 0 then (⟨#[]⟩, j.valid u8) else if 4000 < j.enc.length then (⟨#[]⟩, 2) else (⟨j.enc.toArray⟩, 0)) := Lib.hid rfl
 have HSm := Lib.hid (fun h : j.valid u8 = 0 => Sm.of h)
 obtain ⟨r, hr⟩ : ∃ r, r = j.valid u8 := ⟨_, rfl⟩
 rw [← hr] at Hva HE HSm Hlen
 clear hj hp hT hP hlen hcq hbb hr
 go_enter Tryz.func42, Tryz.ntmps42
 go_upto_region 1 with fail
 rw [← hwq, ← hB1]
 clear hwq hB1
 go_wp2_with fail
 refine Hva.out.mono ?_
 rintro e w2 ⟨rfl, hc2⟩
 obtain ⟨b0, b1, b2, b3, b4⟩ := box_kept B1 Hbb.out hc2
 have Hc2 := Lib.hid (Hcq.out.trans hc2)
 have Hc2' := Lib.hid hc2
 clear hc2
 by_cases hz : r = 0
 · subst hz
   rw [if_neg (by simp)] at HE
   obtain ⟨w3, hw3⟩ : ∃ x, x = w2.alloc (.cells #[.pointer none, .slice none 0 0] 139) := ⟨_, rfl⟩
   obtain ⟨b, hb⟩ : ∃ x, x = w2.heap.size := ⟨_, rfl⟩
   have hc3 : Chg [] w2 w3 := by rw [hw3]; exact (Chg.refl _ _).alloc _
   have hb3 : w3.heap[b]? = some (.cells #[.pointer none, .slice none 0 0] 139 (0, 0)) := by rw [hw3, hb]; exact heap_at _ _ _ rfl
   obtain ⟨b0, b1, b2, b3, b4⟩ := box_kept B1 Hbb.out (Hc2'.out.trans hc3)
   have hbld : BW b b [] w3 := Or.inl ⟨Nat.le_refl _, .slice none 0 0, hb3, World.ownsRow_nil _ _ _ _, by simp [Value.ownBlock]⟩
   have Hbld := Lib.hid hbld
   have Hbsz := Lib.hid (show b ≤ w3.heap.size by rw [hb]; exact hc3.size)
   have Hbw := Lib.hid (show w.heap.size ≤ b by rw [hb]; exact Hc2.out.size)
   have Hc3 := Lib.hid (Hc2.out.trans hc3)
   clear hc3 hb3 hbld
   go_upto_region 5 with fail
   rw [← hw3, ← hb]
   clear hw3 hb
   go_wp2_with fail
   refine (enc_any p b b ⟨fun g hg => by have := Hp.out g hg; have := Hbw.out; omega, by have := HP.out.lt; have := Hbw.out; omega⟩ f w3 j _ [] (Hj.out.kept (S := fun _ => False) Hc3.out.p (fun _ _ h => h)) (HSm.out (by first | trivial | rfl)) Hbld.out Hbsz.out (HP.out.kept (S := fun _ => False) Hc3.out.p (fun h => h)) (by have := Hlen.out (by first | trivial | rfl); simpa using this)).mono ?_
   rintro e w4 ⟨rfl, h1, hc4, hz4⟩
   rw [List.nil_append] at h1
   have H4 := Lib.hid (And.intro h1 (And.intro hc4 (Nat.le_trans Hbsz.out hz4)))
   clear h1 hc4 hz4
   go_wp2_with fail
   refine (Tryz.Builder_Len b b _ w4 H4.out.1).mono ?_
   rintro e w' ⟨rfl, rfl⟩
   rw [cells_len]
   obtain ⟨m, hm⟩ : ∃ m, m = j.enc.length := ⟨_, rfl⟩
   rw [← hm] at HE ⊢
   clear hm
   have hcw : ∀ w5, Below b w' w5 → Chg [] w w5 := fun w5 hb5 => chg_below Hc3.out H4.out.2.1 hb5 Hbw.out
   by_cases hl : 4000 < m
   · rw [if_pos hl] at HE
     have hli : (4000 : Int) < m := by omega
     go_wp2_with fail
     go_ret2
     exact ⟨by rw [HE.out]; rfl, hcw _ (Below.refl _ _)⟩
   · rw [if_neg hl] at HE
     have hli : ¬ (4000 : Int) < m := by omega
     go_wp2_with fail
     refine (Tryz.Builder_String_any b b _ w' H4.out.1 H4.out.2.2).mono ?_
     rintro e w5 ⟨rfl, hb5⟩
     have Hw5 := Lib.hid (hcw w5 hb5)
     clear hcw hb5
     go_wp2_with fail
     go_ret2
     exact ⟨by rw [HE.out]; rfl, Hw5.out⟩
 · rw [if_pos hz] at HE
   have hzb : (r != 0) = true := by simpa using hz
   clear hz
   go_wp2_with fail
   go_ret2
   exact ⟨by rw [HE.out]; rfl, Hc2.out⟩
theorem msg_cells (b : Nat) {w w' : World} {k i c : Int} {t : ByteArray} {x y : Int} {s : ByteArray} {nv iv : Value} (h : w.heap[b]? = some (.cells #[.int .i64 k, .int .i64 i, .int .i64 c, .string t, .int .i64 x, .int .i64 y, .string s, nv, iv] 61 (0, 0))) (hc : Chg [] w w') :
 w'.cell? ⟨b, 0, none⟩ = some (.int .i64 k) ∧ w'.cell? ⟨b, 1, none⟩ = some (.int .i64 i) ∧ w'.cell? ⟨b, 2, none⟩ = some (.int .i64 c) ∧ w'.cell? ⟨b, 3, none⟩ = some (.string t) ∧ w'.cell? ⟨b, 4, none⟩ = some (.int .i64 x) ∧ w'.cell? ⟨b, 5, none⟩ = some (.int .i64 y) ∧ w'.cell? ⟨b, 6, none⟩ = some (.string s) ∧ w'.cell? ⟨b, 7, none⟩ = some nv ∧ w'.cell? ⟨b, 8, none⟩ = some iv := by
 have h' := (hc.block _ (lt_of_obj h) (by simp)).trans h
 exact ⟨cell_of_heap h' rfl, cell_of_heap h' rfl, cell_of_heap h' rfl, cell_of_heap h' rfl, cell_of_heap h' rfl, cell_of_heap h' rfl, cell_of_heap h' rfl, cell_of_heap h' rfl, cell_of_heap h' rfl⟩
end Go.Proofs.YtjlknaahpjiibaaGreatDoor.Jv
