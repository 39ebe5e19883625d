/- JSON texts: expect, skipSpace, peek, accept. -/
import Derived.Test.YtpnaegfldkjikaaDoorJvP
import Derived.Test.YtpnaegfldkjikaaDoorJvShelf3
namespace Go.Proofs.YtpnaegfldkjikaaDoor.Jv
open Go.RowKit Go.ChangeMaps Go.MapKept
set_option linter.unusedVariables false
set_option linter.unusedSimpArgs false
/-- a decoder in memory -/
def DS (w : World) (db : Nat) (s : ByteArray) (o : Nat) : Prop := w.heap[db]? = some (.cells #[.string s, .int .i64 (o : Nat)] 58 (0, 0))
theorem DS.kept {S : Nat → Prop} {w w' : World} {db : Nat} {s : ByteArray} {o : Nat} (h : DS w db s o) (hc : ChgP S w w') (hS : ¬ S db) : DS w' db s o := (hc.block db (lt_of_obj h) hS).trans h
theorem DS.new {w w' : World} {db : Nat} {s : ByteArray} {o : Nat} (h : DS w db s o) (hc : Chg [] w w') : DS w' db s o := h.kept (S := fun _ => False) hc.p (fun h => h)
theorem DS.c0 {w : World} {db : Nat} {s : ByteArray} {o : Nat} (h : DS w db s o) : w.cell? ⟨db, 0, none⟩ = some (.string s) := cell_of_heap h rfl
theorem DS.c1 {w : World} {db : Nat} {s : ByteArray} {o : Nat} (h : DS w db s o) : w.cell? ⟨db, 1, none⟩ = some (.int .i64 (o : Nat)) := cell_of_heap h rfl
theorem DS.fz {w : World} {db : Nat} {s : ByteArray} {o : Nat} (h : DS w db s o) (i : Nat) : w.frozen? ⟨db, i, none⟩ = false := frozen_of_heap h
theorem DS.set {w : World} {db : Nat} {s : ByteArray} {o : Nat} (h : DS w db s o) (o' : Nat) : DS (w.setCell ⟨db, 1, none⟩ (.int .i64 (o' : Nat))) db s o' := by
  unfold DS at h ⊢
  rw [heap_setCell_same h]
  rfl
theorem DS.setI {w : World} {db : Nat} {s : ByteArray} {o o' : Nat} {z : Int} (h : DS w db s o) (hz : z = (o' : Nat)) : DS (w.setCell ⟨db, 1, none⟩ (.int .i64 z)) db s o' := by subst hz; exact h.set o'
theorem set_chg (w : World) (db : Nat) (u : Value) : Chg [db] w (w.setCell ⟨db, 1, none⟩ u) := (Chg.refl [db] w).setCell (Or.inl (by simp)) _
/-- the panic that ends parsing -/
def sx : List PanicEntry := [{ v := .iface 54 (.agg #[]), recovered := false }]
set_option maxHeartbeats 1000000 in
theorem expect_any (db : Nat) (b : Bool) (w : World) : Calls Tryd.prog 27 #[.pointer (some ⟨db, 0, none⟩), .bool b] w fun e w' => e = (if b then .returned (.tuple #[]) else .panicked sx) ∧ w' = w := by
  cases b
  · go_enter Tryd.func27, Tryd.ntmps27
    go_wp2_with fail
    exact ⟨rfl, rfl, rfl⟩
  · go_enter Tryd.func27, Tryd.ntmps27
    go_wp2_with fail
    go_end0
    exact ⟨rfl, rfl⟩
/-! ### white space -/
def sp (c : UInt8) : Bool := c == 32 || c == 9 || c == 10 || c == 13
def skip : List UInt8 → List UInt8
  | [] => []
  | c :: r => if sp c then skip r else c :: r
set_option maxRecDepth 100000 in
theorem sp_ix : ∀ a : Nat, a < 256 → decide (0 ≤ Lib.indexByte [32, 9, 10, 13] ((a : Int).toNat.toUInt8)) = sp a.toUInt8 := by decide
def offW (w : World) (db : Nat) : Nat := match w.cell? ⟨db, 1, none⟩ with | some (.int _ n) => n.toNat | _ => 0
theorem DS.off {w : World} {db : Nat} {s : ByteArray} {o : Nat} (h : DS w db s o) : offW w db = o := by unfold offW; rw [h.c1]; rfl
theorem skip_at {s : ByteArray} {o : Nat} (ho : o < s.size) : skip (s.data.toList.drop o) = if sp s[o] then skip (s.data.toList.drop (o + 1)) else s.data.toList.drop o := by
  have hl : o < s.data.toList.length := ho
  rw [List.drop_eq_getElem_cons hl, skip]
  rfl
theorem get_u8 {s : ByteArray} {o a : Nat} (ho : o < s.size) (h : s[o].toNat = a) : a.toUInt8 = s[o] ∧ a < 256 := by
  subst h
  exact ⟨by simp [Nat.toUInt8], s[o].toNat_lt⟩
set_option maxRecDepth 100000 in
set_option maxHeartbeats 4000000 in
theorem skip_any (db : Nat) (s : ByteArray) (o : Nat) (w : World) (h : DS w db s o) (ho : o ≤ s.size) (hs : s.size ≤ 100000) :
    Calls Tryd.prog 26 #[.pointer (some ⟨db, 0, none⟩)] w fun e w' => e = .returned (.tuple #[]) ∧ ∃ o', o ≤ o' ∧ o' ≤ s.size ∧ DS w' db s o' ∧ s.data.toList.drop o' = skip (s.data.toList.drop o) ∧ Chg [db] w w' := by
  obtain ⟨K, hK⟩ : ∃ K, K = skip (s.data.toList.drop o) := ⟨_, rfl⟩
  rw [← hK]
  have H : Hid (o ≤ o ∧ o ≤ s.size ∧ DS w db s o ∧ skip (s.data.toList.drop o) = K ∧ Chg [db] w w) := Lib.hid ⟨Nat.le_refl _, ho, h, hK.symm, Chg.refl _ _⟩
  clear h ho hK
  go_enter Tryd.func26, Tryd.ntmps26
  go_wp2_with fail
  go_loopw [] (fun wr => ∃ q, Hid (o ≤ q ∧ q ≤ s.size ∧ DS wr db s q ∧ skip (s.data.toList.drop q) = K ∧ Chg [db] w wr)) (fun wr => s.size - offW wr db)
  case atStart => exact ⟨o, H⟩
  case round =>
    obtain ⟨q, HQ⟩ := hrel
    have c0 := HQ.out.2.2.1.c0
    have c1 := HQ.out.2.2.1.c1
    have f1 := HQ.out.2.2.1.fz 1
    have lb := lt_of_cell c0
    have hq2 := HQ.out.2.1
    have hoff := HQ.out.2.2.1.off
    by_cases hlt : q < s.size
    · have hij : (q : Int) < s.size := by omega
      have hi0 : (0 : Int) ≤ q := by omega
      have hsk := skip_at hlt
      obtain ⟨a, ha⟩ : ∃ a, s[q].toNat = a := ⟨_, rfl⟩
      have hu := get_u8 hlt ha
      obtain ⟨z, hz⟩ : ∃ z, z = Lib.indexByte [32, 9, 10, 13] ((a : Int).toNat.toUInt8) := ⟨_, rfl⟩
      have hsp := sp_ix a hu.2
      rw [hu.1, ← hz] at hsp
      have Hib := Lib.hid (fun W : World => by have h := Tryd.strings_IndexByte ⟨#[32, 9, 10, 13]⟩ (a : Nat) W; rw [show (ByteArray.mk #[32, 9, 10, 13]).data.toList = [32, 9, 10, 13] from rfl, ← hz] at h; exact h)
      have Hsk := Lib.hid hsk
      have Hsp := Lib.hid hsp
      clear hsk hz hu hsp
      by_cases hs : 0 ≤ z
      · have Hs := Lib.hid (show sp s[q] = true by rw [← Hsp.out]; exact decide_eq_true hs)
        have hzd : decide (0 ≤ z) = true := decide_eq_true hs
        have hqd : decide ((q : Int) < s.size) = true := decide_eq_true hij
        have hqn : decide (q < s.size) = true := decide_eq_true hlt
        have ho1 : IntKind.i64.wrap ((q : Int) + 1) = ((q + 1 : Nat) : Int) := by rw [IntWalk.i64_in _ (by omega)]; omega
        go_upto_region 0 with fail
        go_quiet ((go_at_call 42; (refine Calls.quiet_of_same (Hib.out _))))
        go_wp2_with fail
        have hD := (HQ.out.2.2.1.new ((Chg.refl [] wr).drewN nq)).setI (o' := q + 1) (z := (q : Int) + 1) (by omega)
        refine ⟨⟨q + 1, Lib.hid ⟨by have := HQ.out.1; omega, by omega, hD, ?_, (HQ.out.2.2.2.2.drewN nq).trans (set_chg _ _ _)⟩⟩, ?_⟩
        · rw [← HQ.out.2.2.2.1, Hsk.out, if_pos Hs.out]
        · rw [hD.off, hoff]; omega
      · have Hs := Lib.hid (show sp s[q] = false by rw [← Hsp.out]; exact decide_eq_false hs)
        have hzd : decide (0 ≤ z) = false := decide_eq_false hs
        have hqd : decide ((q : Int) < s.size) = true := decide_eq_true hij
        have hqn : decide (q < s.size) = true := decide_eq_true hlt
        go_upto_region 0 with fail
        go_quiet ((go_at_call 42; (refine Calls.quiet_of_same (Hib.out _))))
        go_wp2_with fail
        go_end0
        exact ⟨rfl, q, HQ.out.1, hq2, HQ.out.2.2.1.new ((Chg.refl [] wr).drewN nq), by rw [← HQ.out.2.2.2.1, Hsk.out, if_neg (by rw [Hs.out]; simp)], HQ.out.2.2.2.2.drewN nq⟩
    · have hij : ¬ ((q : Int) < s.size) := by omega
      have hqd : decide ((q : Int) < s.size) = false := decide_eq_false hij
      have hqn : decide (q < s.size) = false := decide_eq_false hlt
      go_upto_region 0 with fail
      go_quiet (fail)
      go_wp2_with fail
      go_end0
      have hqe : q = s.size := by omega
      exact ⟨rfl, q, HQ.out.1, hq2, HQ.out.2.2.1.new ((Chg.refl [] wr).drewN nq), by rw [← HQ.out.2.2.2.1, List.drop_of_length_le (show s.data.toList.length ≤ q by rw [hqe]; exact Nat.le_refl _)]; rfl, HQ.out.2.2.2.2.drewN nq⟩
/-! ### the next byte -/
def peekL : List UInt8 → Nat
  | [] => 0
  | c :: _ => c.toNat
theorem peek_at {s : ByteArray} {o : Nat} (ho : o < s.size) : peekL (s.data.toList.drop o) = s[o].toNat := by
  have hl : o < s.data.toList.length := ho
  rw [List.drop_eq_getElem_cons hl]
  rfl
theorem peek_end {s : ByteArray} {o : Nat} (ho : ¬ o < s.size) : peekL (s.data.toList.drop o) = 0 := by
  rw [List.drop_of_length_le (show s.data.toList.length ≤ o from Nat.le_of_not_lt ho)]
  rfl
set_option maxHeartbeats 4000000 in
theorem peek_any (db : Nat) (s : ByteArray) (o : Nat) (w : World) (h : DS w db s o) (hs : s.size ≤ 100000) :
    Calls Tryd.prog 38 #[.pointer (some ⟨db, 0, none⟩)] w fun e w' => e = .returned (.int .u8 (peekL (s.data.toList.drop o) : Nat)) ∧ Chg [] w w' := by
  have c0 := h.c0
  have c1 := h.c1
  have lb := lt_of_cell c0
  clear h
  go_enter Tryd.func38, Tryd.ntmps38
  by_cases hlt : o < s.size
  · have hij : (o : Int) < s.size := by omega
    have hi0 : (0 : Int) ≤ o := by omega
    rw [peek_at hlt]
    go_upto_region 1 with fail
    go_quiet (fail)
    go_upto_region 2 with fail
    go_quiet (fail)
    go_wp2_with fail
    go_ret
    exact ⟨rfl, (Chg.refl _ _).drewN _⟩
  · have hij : ¬ ((o : Int) < s.size) := by omega
    rw [peek_end hlt]
    go_upto_region 1 with fail
    go_quiet (fail)
    go_wp2_with fail
    go_ret
    exact ⟨rfl, (Chg.refl _ _).drewN _⟩
/-! ### a token -/
theorem extract_drop (s : ByteArray) (o : Nat) : (s.extract o s.size).data.toList = s.data.toList.drop o := by
  rw [Lib.extract_data]
  have hl : s.data.toList.length = s.size := rfl
  first
  | rw [List.take_of_length_le (by rw [List.length_drop, hl]; exact Nat.le_refl _)]
  | rw [List.take_of_length_le (by rw [hl]; exact Nat.le_refl _)]
set_option maxHeartbeats 4000000 in
theorem accept_any (db : Nat) (s tok : ByteArray) (o : Nat) (w : World) (h : DS w db s o) (ho : o ≤ s.size) (hs : s.size ≤ 100000) (ht : tok.size ≤ 100) :
    Calls Tryd.prog 37 #[.pointer (some ⟨db, 0, none⟩), .string tok] w fun e w' => e = .returned (.bool (Lib.hasPrefix (s.data.toList.drop o) tok.data.toList)) ∧ DS w' db s (if Lib.hasPrefix (s.data.toList.drop o) tok.data.toList then o + tok.size else o) ∧ Chg [db] w w' := by
  have c0 := h.c0
  have c1 := h.c1
  have lb := lt_of_cell c0
  have H := Lib.hid h
  have hi0 : (0 : Int) ≤ o := by omega
  have hio : (o : Int) ≤ s.size := by omega
  obtain ⟨q, hq⟩ : ∃ q, q = Lib.hasPrefix (s.data.toList.drop o) tok.data.toList := ⟨_, rfl⟩
  rw [← hq]
  have Hp := Lib.hid (fun W : World => by have h := Tryd.strings_HasPrefix (s.extract o s.size) tok W; rw [extract_drop, ← hq] at h; exact h)
  clear h hq
  cases q
  · go_enter Tryd.func37, Tryd.ntmps37
    go_upto_region 1 with fail
    go_quiet ((go_at_call 51; (refine Calls.quiet_of_same (Hp.out _))))
    go_wp2_with fail
    go_ret
    exact ⟨rfl, H.out.new ((Chg.refl _ _).drewN _), (Chg.refl _ _).drewN _⟩
  · go_enter Tryd.func37, Tryd.ntmps37
    go_upto_region 1 with fail
    go_quiet ((go_at_call 51; (refine Calls.quiet_of_same (Hp.out _))))
    have f1 := (H.out.new ((Chg.refl [] w).drewN nq)).fz 1
    go_wp2_with fail
    go_ret
    exact ⟨rfl, (H.out.new ((Chg.refl [] w).drewN nq)).setI (by omega), ((Chg.refl [db] w).drewN nq).trans (set_chg _ _ _)⟩
end Go.Proofs.YtpnaegfldkjikaaDoor.Jv
