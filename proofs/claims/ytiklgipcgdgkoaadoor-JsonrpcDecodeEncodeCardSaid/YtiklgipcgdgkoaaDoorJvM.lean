/- JSON values: encodeString. -/
import Derived.Test.YtiklgipcgdgkoaaDoorJvL
namespace Go.Proofs.YtiklgipcgdgkoaaDoor.Jv
open Go.RowKit Go.ChangeMaps Go.MapKept
set_option linter.unusedVariables false
set_option linter.unusedSimpArgs false
/-! ### plain -/
def hx (d : Nat) : UInt8 := if d < 10 then (48 + d).toUInt8 else (87 + d).toUInt8
/-- a byte of a text, written -/
def escN (a : Nat) : List UInt8 :=
  if a = 34 then [92, 34] else if a = 92 then [92, 92] else if a = 8 then [92, 98] else if a = 9 then [92, 116] else if a = 10 then [92, 110] else if a = 12 then [92, 102] else if a = 13 then [92, 114] else if a < 32 then [92, 117, 48, 48, hx (a / 16), hx (a % 16)] else [a.toUInt8]
def hexD : ByteArray := ⟨#[48, 49, 50, 51, 52, 53, 54, 55, 56, 57, 97, 98, 99, 100, 101, 102]⟩
theorem hexD_all : ∀ d : Fin 16, (hexD[d.val]'(d.isLt)) = hx d.val := by decide
theorem hexD_lt (d : Nat) (h : d < 16) : ((ByteArray.mk #[48, 49, 50, 51, 52, 53, 54, 55, 56, 57, 97, 98, 99, 100, 101, 102])[d]'h).toNat < 256 := UInt8.toNat_lt _
theorem hexD_u8 (d : Nat) (h : d < 16) : ((ByteArray.mk #[48, 49, 50, 51, 52, 53, 54, 55, 56, 57, 97, 98, 99, 100, 101, 102])[d]'h).toNat.toUInt8 = hx d := by
  have e := hexD_all ⟨d, h⟩
  have e2 : (ByteArray.mk #[48, 49, 50, 51, 52, 53, 54, 55, 56, 57, 97, 98, 99, 100, 101, 102])[d]'h = hx d := e
  rw [e2]
  simp [Nat.toUInt8]
def escL : List UInt8 → List UInt8
  | [] => []
  | c :: l => escN c.toNat ++ escL l
def encS (s : ByteArray) : List UInt8 := 34 :: (escL s.data.toList ++ [34])
def ixc (a : Nat) : Int := if a = 8 then 0 else if a = 9 then 1 else if a = 10 then 2 else if a = 12 then 3 else if a = 13 then 4 else -1
set_option maxRecDepth 100000 in
theorem ixc_eq : ∀ a : Nat, a < 256 → Lib.indexByte [8, 9, 10, 12, 13] ((a : Int).toNat.toUInt8) = ixc a := by decide
/-- a builder that holds bytes -/
def BW (B b : Nat) (l : List UInt8) (w : World) : Prop := IsBld B b (Lib.byteCells l) w
theorem cells_app (l m : List UInt8) : Lib.byteCells (l ++ m) = Lib.byteCells l ++ Lib.byteCells m := by simp [Lib.byteCells]
theorem cells_len (l : List UInt8) : (Lib.byteCells l).length = l.length := by simp [Lib.byteCells]
theorem BW.same {B b : Nat} {l : List UInt8} {w w' : World} (h : BW B b l w) (hc : Chg [] w w') : BW B b l w' := IsBld.same h hc
/-- what a write does -/
def WrPost (B b : Nat) (l : List UInt8) (v : Value) (w : World) (e : Ending) (w' : World) : Prop := e = .returned v ∧ BW B b l w' ∧ ChgP (bldSet B b w) w w' ∧ w.heap.size ≤ w'.heap.size
theorem wb_any (B b : Nat) (l : List UInt8) (a : Nat) (w : World) (h : BW B b l w) (ha : a < 256) (hlen : l.length + 1 ≤ 140737488355328) (hBw : B ≤ w.heap.size) :
    Calls Tryd.prog 82 #[.pointer (some ⟨b, 0, none⟩), .int .u8 (a : Nat)] w (WrPost B b (l ++ [a.toUInt8]) .nilIface w) :=
  (writeByte_any B b _ (a : Nat) w h (by rw [cells_len]; exact hlen) hBw).mono fun e w' ⟨h1, h2, h3⟩ => ⟨h1, by
    unfold BW
    rw [cells_app]
    have e : Lib.byteCells [a.toUInt8] = [Value.int .u8 (a : Nat)] := by
      have : a.toUInt8.toNat = a := by simp [Nat.toUInt8, UInt8.toNat_ofNat']; omega
      simp [Lib.byteCells, this]
    rw [e]
    exact h2, h3, h3.size⟩
theorem ws_any (B b : Nat) (l : List UInt8) (s : ByteArray) (w : World) (h : BW B b l w) (hlen : l.length + s.size ≤ 140737488355328) (hBw : B ≤ w.heap.size) :
    Calls Tryd.prog 65 #[.pointer (some ⟨b, 0, none⟩), .string s] w (WrPost B b (l ++ s.data.toList) (.tuple #[.int .i64 s.size, .nilIface]) w) :=
  (writeString_any B b _ s w h (by rw [cells_len]; exact hlen) hBw).mono fun e w' ⟨h1, h2, h3⟩ => ⟨h1, by
    unfold BW
    rw [cells_app]
    exact h2, h3, h3.size⟩
theorem escL_drop {l : List UInt8} {i : Nat} (hi : i < l.length) : escL (l.drop i) = escN l[i].toNat ++ escL (l.drop (i + 1)) := by rw [List.drop_eq_getElem_cons hi, escL]
set_option maxRecDepth 100000 in
set_option maxHeartbeats 8000000 in
theorem encS_any (B b : Nat) (l : List UInt8) (s : ByteArray) (w : World) (h : BW B b l w) (hlen : l.length + (encS s).length ≤ 140737488355328) (hBw : B ≤ w.heap.size) (hs : s.size ≤ maxLen) :
    Calls Tryd.prog 68 #[.pointer (some ⟨b, 0, none⟩), .string s] w (WrPost B b (l ++ encS s) (.tuple #[]) w) := by
  have Hl := Lib.hid hlen
  have Hb := Lib.hid hBw
  have e1 : (encS s).length = (escL s.data.toList).length + 2 := by simp [encS]
  have H1 := Lib.hid (wb_any B b l 34 w h (by decide) (by omega) hBw)
  unfold maxLen at hs
  have Hix := Lib.hid (fun (a : Nat) (ha : a < 256) (W : World) => by have h := Tryd.strings_IndexByte ⟨#[8, 9, 10, 12, 13]⟩ (a : Nat) W; rw [show (ByteArray.mk #[8, 9, 10, 12, 13]).data.toList = [8, 9, 10, 12, 13] from rfl, ixc_eq a ha] at h; exact h)
  have E1 := Lib.hid e1
  clear h hlen hBw e1
  go_enter Tryd.func68, Tryd.ntmps68
  go_wp2_with fail
  refine H1.out.mono ?_
  rintro e w1 ⟨rfl, h1, hc1, hz1⟩
  have HI : Hid (BW B b (l ++ [34]) w1 ∧ ChgP (bldSet B b w) w w1 ∧ B ≤ w1.heap.size) := Lib.hid ⟨h1, hc1, by have := Hb.out; omega⟩
  clear h1 hc1 hz1
  go_wp2_with fail
  go_loopw [11] (fun ii wr => ∃ (i : Nat) (m : List UInt8), i ≤ s.size ∧ ii = .int .i64 (i : Nat) ∧ Hid (BW B b m wr ∧ ChgP (bldSet B b w) w wr ∧ B ≤ wr.heap.size) ∧ Hid (m ++ escL (s.data.toList.drop i) = l ++ 34 :: escL s.data.toList)) (fun ii _ => s.size - (intOf ii).toNat)
  case atStart => exact ⟨0, _, by omega, rfl, HI, Lib.hid (by simp)⟩
  case round =>
    obtain ⟨i, m, hi, rfl, HB, HM⟩ := hrel
    by_cases hlt : i < s.size
    · have hij : (i : Int) < s.size := by omega
      have hi0 : (0 : Int) ≤ i := by omega
      obtain ⟨a, ha, ha6, hsz, hM2⟩ : ∃ a, s[i].toNat = a ∧ a < 256 ∧ m.length + (escN a).length + 1 ≤ 140737488355328 ∧ (m ++ escN a) ++ escL (s.data.toList.drop (i + 1)) = l ++ 34 :: escL s.data.toList := by
        have hld : i < s.data.toList.length := hlt
        have Hd := escL_drop hld
        have hsi : s.data.toList[i] = s[i] := by simp [ByteArray.getElem_eq_getElem_data]
        rw [hsi] at Hd
        have hMl : m.length + (escL (s.data.toList.drop i)).length = l.length + 1 + (escL s.data.toList).length := by have := congrArg List.length HM.out; simp at this; omega
        have hel : (escL (s.data.toList.drop i)).length = (escN s[i].toNat).length + (escL (s.data.toList.drop (i + 1))).length := by rw [Hd, List.length_append]
        refine ⟨_, rfl, s[i].toNat_lt, by have := Hl.out; have := E1.out; omega, by rw [List.append_assoc, ← Hd]; exact HM.out⟩
      have Hsz := Lib.hid hsz
      have HM2 := Lib.hid hM2
      have Hi2 := Lib.hid (Hix.out a ha6)
      clear hsz hM2
      by_cases h34 : a = 34
      · subst h34
        have Hi3 := Lib.hid (show ∀ W : World, Calls Tryd.prog 83 #[.string ⟨#[8, 9, 10, 12, 13]⟩, .int .u8 34] W (fun e w' => e = .returned (.int .i64 (-1)) ∧ w' = W) from Hi2.out)
        go_wp2_with fail
        refine (Hi3.out wr).mono ?_
        rintro e w' ⟨rfl, rfl⟩
        go_wp2_with fail
        refine (wb_any B b (m) 92 _ HB.out.1 (by decide) (by have := Hsz.out; simp [escN] at this ⊢; omega) HB.out.2.2).mono ?_
        rintro e w2 ⟨rfl, h1, hc1, hz1⟩
        have HB2 : Hid (BW B b (m ++ [92]) w2 ∧ ChgP (bldSet B b w) w w2 ∧ B ≤ w2.heap.size) := Lib.hid ⟨h1, bset_trans HB.out.2.1 hc1, by have := HB.out.2.2; omega⟩
        clear h1 hc1 hz1
        go_wp2_with fail
        refine (wb_any B b (m ++ [92]) 34 _ HB2.out.1 (by decide) (by have := Hsz.out; simp [escN] at this ⊢; omega) HB2.out.2.2).mono ?_
        rintro e w3 ⟨rfl, h1, hc1, hz1⟩
        have HB3 : Hid (BW B b (m ++ [92] ++ [34]) w3 ∧ ChgP (bldSet B b w) w w3 ∧ B ≤ w3.heap.size) := Lib.hid ⟨h1, bset_trans HB2.out.2.1 hc1, by have := HB2.out.2.2; omega⟩
        clear h1 hc1 hz1
        go_wp2_with fail
        exact ⟨⟨i + 1, _, by omega, by go_num, HB3, Lib.hid (by have := HM2.out; simpa [escN] using this)⟩, by simp [intOf]; omega⟩
      by_cases h92 : a = 92
      · subst h92
        have Hi3 := Lib.hid (show ∀ W : World, Calls Tryd.prog 83 #[.string ⟨#[8, 9, 10, 12, 13]⟩, .int .u8 92] W (fun e w' => e = .returned (.int .i64 (-1)) ∧ w' = W) from Hi2.out)
        go_wp2_with fail
        refine (Hi3.out wr).mono ?_
        rintro e w' ⟨rfl, rfl⟩
        go_wp2_with fail
        refine (wb_any B b (m) 92 _ HB.out.1 (by decide) (by have := Hsz.out; simp [escN] at this ⊢; omega) HB.out.2.2).mono ?_
        rintro e w2 ⟨rfl, h1, hc1, hz1⟩
        have HB2 : Hid (BW B b (m ++ [92]) w2 ∧ ChgP (bldSet B b w) w w2 ∧ B ≤ w2.heap.size) := Lib.hid ⟨h1, bset_trans HB.out.2.1 hc1, by have := HB.out.2.2; omega⟩
        clear h1 hc1 hz1
        go_wp2_with fail
        refine (wb_any B b (m ++ [92]) 92 _ HB2.out.1 (by decide) (by have := Hsz.out; simp [escN] at this ⊢; omega) HB2.out.2.2).mono ?_
        rintro e w3 ⟨rfl, h1, hc1, hz1⟩
        have HB3 : Hid (BW B b (m ++ [92] ++ [92]) w3 ∧ ChgP (bldSet B b w) w w3 ∧ B ≤ w3.heap.size) := Lib.hid ⟨h1, bset_trans HB2.out.2.1 hc1, by have := HB2.out.2.2; omega⟩
        clear h1 hc1 hz1
        go_wp2_with fail
        exact ⟨⟨i + 1, _, by omega, by go_num, HB3, Lib.hid (by have := HM2.out; simpa [escN] using this)⟩, by simp [intOf]; omega⟩
      by_cases h8 : a = 8
      · subst h8
        have Hi3 := Lib.hid (show ∀ W : World, Calls Tryd.prog 83 #[.string ⟨#[8, 9, 10, 12, 13]⟩, .int .u8 8] W (fun e w' => e = .returned (.int .i64 (0)) ∧ w' = W) from Hi2.out)
        go_wp2_with fail
        refine (Hi3.out wr).mono ?_
        rintro e w' ⟨rfl, rfl⟩
        go_wp2_with fail
        refine (wb_any B b (m) 92 _ HB.out.1 (by decide) (by have := Hsz.out; simp [escN] at this ⊢; omega) HB.out.2.2).mono ?_
        rintro e w2 ⟨rfl, h1, hc1, hz1⟩
        have HB2 : Hid (BW B b (m ++ [92]) w2 ∧ ChgP (bldSet B b w) w w2 ∧ B ≤ w2.heap.size) := Lib.hid ⟨h1, bset_trans HB.out.2.1 hc1, by have := HB.out.2.2; omega⟩
        clear h1 hc1 hz1
        go_wp2_with fail
        refine (wb_any B b (m ++ [92]) 98 _ HB2.out.1 (by decide) (by have := Hsz.out; simp [escN] at this ⊢; omega) HB2.out.2.2).mono ?_
        rintro e w3 ⟨rfl, h1, hc1, hz1⟩
        have HB3 : Hid (BW B b (m ++ [92] ++ [98]) w3 ∧ ChgP (bldSet B b w) w w3 ∧ B ≤ w3.heap.size) := Lib.hid ⟨h1, bset_trans HB2.out.2.1 hc1, by have := HB2.out.2.2; omega⟩
        clear h1 hc1 hz1
        go_wp2_with fail
        exact ⟨⟨i + 1, _, by omega, by go_num, HB3, Lib.hid (by have := HM2.out; simpa [escN] using this)⟩, by simp [intOf]; omega⟩
      by_cases h9 : a = 9
      · subst h9
        have Hi3 := Lib.hid (show ∀ W : World, Calls Tryd.prog 83 #[.string ⟨#[8, 9, 10, 12, 13]⟩, .int .u8 9] W (fun e w' => e = .returned (.int .i64 (1)) ∧ w' = W) from Hi2.out)
        go_wp2_with fail
        refine (Hi3.out wr).mono ?_
        rintro e w' ⟨rfl, rfl⟩
        go_wp2_with fail
        refine (wb_any B b (m) 92 _ HB.out.1 (by decide) (by have := Hsz.out; simp [escN] at this ⊢; omega) HB.out.2.2).mono ?_
        rintro e w2 ⟨rfl, h1, hc1, hz1⟩
        have HB2 : Hid (BW B b (m ++ [92]) w2 ∧ ChgP (bldSet B b w) w w2 ∧ B ≤ w2.heap.size) := Lib.hid ⟨h1, bset_trans HB.out.2.1 hc1, by have := HB.out.2.2; omega⟩
        clear h1 hc1 hz1
        go_wp2_with fail
        refine (wb_any B b (m ++ [92]) 116 _ HB2.out.1 (by decide) (by have := Hsz.out; simp [escN] at this ⊢; omega) HB2.out.2.2).mono ?_
        rintro e w3 ⟨rfl, h1, hc1, hz1⟩
        have HB3 : Hid (BW B b (m ++ [92] ++ [116]) w3 ∧ ChgP (bldSet B b w) w w3 ∧ B ≤ w3.heap.size) := Lib.hid ⟨h1, bset_trans HB2.out.2.1 hc1, by have := HB2.out.2.2; omega⟩
        clear h1 hc1 hz1
        go_wp2_with fail
        exact ⟨⟨i + 1, _, by omega, by go_num, HB3, Lib.hid (by have := HM2.out; simpa [escN] using this)⟩, by simp [intOf]; omega⟩
      by_cases h10 : a = 10
      · subst h10
        have Hi3 := Lib.hid (show ∀ W : World, Calls Tryd.prog 83 #[.string ⟨#[8, 9, 10, 12, 13]⟩, .int .u8 10] W (fun e w' => e = .returned (.int .i64 (2)) ∧ w' = W) from Hi2.out)
        go_wp2_with fail
        refine (Hi3.out wr).mono ?_
        rintro e w' ⟨rfl, rfl⟩
        go_wp2_with fail
        refine (wb_any B b (m) 92 _ HB.out.1 (by decide) (by have := Hsz.out; simp [escN] at this ⊢; omega) HB.out.2.2).mono ?_
        rintro e w2 ⟨rfl, h1, hc1, hz1⟩
        have HB2 : Hid (BW B b (m ++ [92]) w2 ∧ ChgP (bldSet B b w) w w2 ∧ B ≤ w2.heap.size) := Lib.hid ⟨h1, bset_trans HB.out.2.1 hc1, by have := HB.out.2.2; omega⟩
        clear h1 hc1 hz1
        go_wp2_with fail
        refine (wb_any B b (m ++ [92]) 110 _ HB2.out.1 (by decide) (by have := Hsz.out; simp [escN] at this ⊢; omega) HB2.out.2.2).mono ?_
        rintro e w3 ⟨rfl, h1, hc1, hz1⟩
        have HB3 : Hid (BW B b (m ++ [92] ++ [110]) w3 ∧ ChgP (bldSet B b w) w w3 ∧ B ≤ w3.heap.size) := Lib.hid ⟨h1, bset_trans HB2.out.2.1 hc1, by have := HB2.out.2.2; omega⟩
        clear h1 hc1 hz1
        go_wp2_with fail
        exact ⟨⟨i + 1, _, by omega, by go_num, HB3, Lib.hid (by have := HM2.out; simpa [escN] using this)⟩, by simp [intOf]; omega⟩
      by_cases h12 : a = 12
      · subst h12
        have Hi3 := Lib.hid (show ∀ W : World, Calls Tryd.prog 83 #[.string ⟨#[8, 9, 10, 12, 13]⟩, .int .u8 12] W (fun e w' => e = .returned (.int .i64 (3)) ∧ w' = W) from Hi2.out)
        go_wp2_with fail
        refine (Hi3.out wr).mono ?_
        rintro e w' ⟨rfl, rfl⟩
        go_wp2_with fail
        refine (wb_any B b (m) 92 _ HB.out.1 (by decide) (by have := Hsz.out; simp [escN] at this ⊢; omega) HB.out.2.2).mono ?_
        rintro e w2 ⟨rfl, h1, hc1, hz1⟩
        have HB2 : Hid (BW B b (m ++ [92]) w2 ∧ ChgP (bldSet B b w) w w2 ∧ B ≤ w2.heap.size) := Lib.hid ⟨h1, bset_trans HB.out.2.1 hc1, by have := HB.out.2.2; omega⟩
        clear h1 hc1 hz1
        go_wp2_with fail
        refine (wb_any B b (m ++ [92]) 102 _ HB2.out.1 (by decide) (by have := Hsz.out; simp [escN] at this ⊢; omega) HB2.out.2.2).mono ?_
        rintro e w3 ⟨rfl, h1, hc1, hz1⟩
        have HB3 : Hid (BW B b (m ++ [92] ++ [102]) w3 ∧ ChgP (bldSet B b w) w w3 ∧ B ≤ w3.heap.size) := Lib.hid ⟨h1, bset_trans HB2.out.2.1 hc1, by have := HB2.out.2.2; omega⟩
        clear h1 hc1 hz1
        go_wp2_with fail
        exact ⟨⟨i + 1, _, by omega, by go_num, HB3, Lib.hid (by have := HM2.out; simpa [escN] using this)⟩, by simp [intOf]; omega⟩
      by_cases h13 : a = 13
      · subst h13
        have Hi3 := Lib.hid (show ∀ W : World, Calls Tryd.prog 83 #[.string ⟨#[8, 9, 10, 12, 13]⟩, .int .u8 13] W (fun e w' => e = .returned (.int .i64 (4)) ∧ w' = W) from Hi2.out)
        go_wp2_with fail
        refine (Hi3.out wr).mono ?_
        rintro e w' ⟨rfl, rfl⟩
        go_wp2_with fail
        refine (wb_any B b (m) 92 _ HB.out.1 (by decide) (by have := Hsz.out; simp [escN] at this ⊢; omega) HB.out.2.2).mono ?_
        rintro e w2 ⟨rfl, h1, hc1, hz1⟩
        have HB2 : Hid (BW B b (m ++ [92]) w2 ∧ ChgP (bldSet B b w) w w2 ∧ B ≤ w2.heap.size) := Lib.hid ⟨h1, bset_trans HB.out.2.1 hc1, by have := HB.out.2.2; omega⟩
        clear h1 hc1 hz1
        go_wp2_with fail
        refine (wb_any B b (m ++ [92]) 114 _ HB2.out.1 (by decide) (by have := Hsz.out; simp [escN] at this ⊢; omega) HB2.out.2.2).mono ?_
        rintro e w3 ⟨rfl, h1, hc1, hz1⟩
        have HB3 : Hid (BW B b (m ++ [92] ++ [114]) w3 ∧ ChgP (bldSet B b w) w w3 ∧ B ≤ w3.heap.size) := Lib.hid ⟨h1, bset_trans HB2.out.2.1 hc1, by have := HB2.out.2.2; omega⟩
        clear h1 hc1 hz1
        go_wp2_with fail
        exact ⟨⟨i + 1, _, by omega, by go_num, HB3, Lib.hid (by have := HM2.out; simpa [escN] using this)⟩, by simp [intOf]; omega⟩
      have hix : ixc a = -1 := by unfold ixc; rw [if_neg h8, if_neg h9, if_neg h10, if_neg h12, if_neg h13]
      have Hi3 := Lib.hid (fun W : World => by have h := Hi2.out W; rw [hix] at h; exact h)
      have n34 : ((a : Int) == 34) = false := by simp; omega
      have n92 : ((a : Int) == 92) = false := by simp; omega
      have m34 : (a == 34) = false := by simp; omega
      have m92 : (a == 92) = false := by simp; omega
      have hesc : escN a = if a < 32 then [92, 117, 48, 48, hx (a / 16), hx (a % 16)] else [a.toUInt8] := by unfold escN; rw [if_neg h34, if_neg h92, if_neg h8, if_neg h9, if_neg h10, if_neg h12, if_neg h13]
      rw [hesc] at HM2 Hsz
      clear hix hesc
      by_cases h32 : a < 32
      · rw [if_pos h32] at HM2 Hsz
        have h32i : (a : Int) < 32 := by omega
        go_wp2_with fail
        refine (Hi3.out wr).mono ?_
        rintro e w' ⟨rfl, rfl⟩
        go_wp2_with fail
        refine (ws_any B b m ⟨#[92, 117, 48, 48]⟩ _ HB.out.1 (by have h1 := Hsz.out; have h2 : (ByteArray.mk #[92, 117, 48, 48]).size = 4 := rfl; simp at h1; omega) HB.out.2.2).mono ?_
        rintro e w2 ⟨rfl, h1, hc1, hz1⟩
        have HB2 : Hid (BW B b (m ++ [92, 117, 48, 48]) w2 ∧ ChgP (bldSet B b w) w w2 ∧ B ≤ w2.heap.size) := Lib.hid ⟨h1, bset_trans HB.out.2.1 hc1, by have := HB.out.2.2; omega⟩
        clear h1 hc1 hz1
        have q1 : a / 16 < 16 := by omega
        have q2 : a % 16 < 16 := by omega
        go_wp2_with fail
        refine (wb_any B b (m ++ [92, 117, 48, 48]) _ _ HB2.out.1 (hexD_lt _ q1) (by have := Hsz.out; simp at this ⊢; omega) HB2.out.2.2).mono ?_
        rintro e w3 ⟨rfl, h1, hc1, hz1⟩
        rw [hexD_u8 _ q1] at h1
        have HB3 : Hid (BW B b ((m ++ [92, 117, 48, 48]) ++ [hx (a / 16)]) w3 ∧ ChgP (bldSet B b w) w w3 ∧ B ≤ w3.heap.size) := Lib.hid ⟨h1, bset_trans HB2.out.2.1 hc1, by have := HB2.out.2.2; omega⟩
        clear h1 hc1 hz1
        go_wp2_with fail
        refine (wb_any B b ((m ++ [92, 117, 48, 48]) ++ [hx (a / 16)]) _ _ HB3.out.1 (hexD_lt _ q2) (by have := Hsz.out; simp at this ⊢; omega) HB3.out.2.2).mono ?_
        rintro e w4 ⟨rfl, h1, hc1, hz1⟩
        rw [hexD_u8 _ q2] at h1
        have HB4 : Hid (BW B b ((m ++ [92, 117, 48, 48]) ++ [hx (a / 16)] ++ [hx (a % 16)]) w4 ∧ ChgP (bldSet B b w) w w4 ∧ B ≤ w4.heap.size) := Lib.hid ⟨h1, bset_trans HB3.out.2.1 hc1, by have := HB3.out.2.2; omega⟩
        clear h1 hc1 hz1
        go_wp2_with fail
        exact ⟨⟨i + 1, _, by omega, by go_num, HB4, Lib.hid (by have := HM2.out; simpa using this)⟩, by simp [intOf]; omega⟩
      · rw [if_neg h32] at HM2 Hsz
        have h32i : ¬ (a : Int) < 32 := by omega
        go_wp2_with fail
        refine (Hi3.out wr).mono ?_
        rintro e w' ⟨rfl, rfl⟩
        go_wp2_with fail
        refine (wb_any B b (m) a _ HB.out.1 ha6 (by have := Hsz.out; simp at this; omega) HB.out.2.2).mono ?_
        rintro e w2 ⟨rfl, h1, hc1, hz1⟩
        have HB2 : Hid (BW B b (m ++ [a.toUInt8]) w2 ∧ ChgP (bldSet B b w) w w2 ∧ B ≤ w2.heap.size) := Lib.hid ⟨h1, bset_trans HB.out.2.1 hc1, by have := HB.out.2.2; omega⟩
        clear h1 hc1 hz1
        go_wp2_with fail
        exact ⟨⟨i + 1, _, by omega, by go_num, HB2, HM2⟩, by simp [intOf]; omega⟩
    · obtain rfl : i = s.size := by omega
      have hM := HM.out
      rw [List.drop_of_length_le (show s.data.toList.length ≤ s.size from Nat.le_refl _), escL, List.append_nil] at hM
      subst hM
      have hz := Hl.out
      have hz2 := E1.out
      go_wp2_with fail
      refine (wb_any B b _ 34 wr HB.out.1 (by decide) (by simp; omega) HB.out.2.2).mono ?_
      rintro e w2 ⟨rfl, h1, hc1, hz1⟩
      have HB2 : Hid (BW B b (l ++ encS s) w2 ∧ ChgP (bldSet B b w) w w2) := Lib.hid ⟨by have := h1; simpa [encS] using this, bset_trans HB.out.2.1 hc1⟩
      clear h1 hc1 hz1
      go_wp2_with fail
      go_end0
      exact ⟨rfl, HB2.out.1, HB2.out.2, HB2.out.2.size⟩
end Go.Proofs.YtiklgipcgdgkoaaDoor.Jv
