/- Part of the proof of topCrashedLaw_holds. -/
import Derived.Laws.BitsAllLaws
namespace Go.Proofs.YtjlknaahpjiibaaGreatDoor.J
def bs (l : List UInt8) : ByteArray := ⟨l.toArray⟩
theorem bs_data (l : List UInt8) : (bs l).data.toList = l := rfl
theorem bs_size (l : List UInt8) : (bs l).size = l.length := by simp [bs, ByteArray.size]
theorem bs_eta (s : ByteArray) : bs s.data.toList = s := rfl
theorem eq_bs {s : ByteArray} {l : List UInt8} (h : s.data.toList = l) : s = bs l := by rw [← h]; rfl
theorem append_bs (a b : ByteArray) : (a ++ b).data.toList = a.data.toList ++ b.data.toList := by
 obtain ⟨⟨x⟩⟩ := a
 obtain ⟨⟨y⟩⟩ := b
 simp
def ckStep (h : Nat) (b : UInt8) : Nat := ((h ^^^ b.toNat) * 16777619) % 4294967296
def ck0 : Nat := 2166136261
theorem ck0_lt : ck0 < 4294967296 := by unfold ck0; decide
def ck (l : List UInt8) : Nat := l.foldl ckStep ck0
theorem ckStep_lt (h : Nat) (b : UInt8) : ckStep h b < 4294967296 := Nat.mod_lt _ (by decide)
theorem ck_fold_lt (l : List UInt8) : ∀ h, h < 4294967296 → l.foldl ckStep h < 4294967296 := by
 induction l with
 | nil => intro h hh; exact hh
 | cons b r ih => intro h _; exact ih _ (ckStep_lt h b)
theorem ck_lt (l : List UInt8) : ck l < 4294967296 := ck_fold_lt l _ ck0_lt
def len2 (n : Nat) : List UInt8 := [UInt8.ofNat (n / 256 % 256), UInt8.ofNat (n % 256)]
def sum4 (n : Nat) : List UInt8 := [UInt8.ofNat (n / 16777216 % 256), UInt8.ofNat (n / 65536 % 256), UInt8.ofNat (n / 256 % 256), UInt8.ofNat (n % 256)]
def frameL (p : List UInt8) : List UInt8 := len2 p.length ++ sum4 (ck (len2 p.length ++ p)) ++ p
theorem frameL_length (p : List UInt8) : (frameL p).length = p.length + 6 := by simp [frameL, len2, sum4]
structure Rec where
 key : ByteArray
 val : ByteArray
 del : Bool
def Rec.zero : Rec := ⟨⟨#[]⟩, ⟨#[]⟩, false⟩
def Rec.err (r : Rec) : Int := if r.key.data.toList = [] ∨ (r.del = true ∧ r.val.data.toList ≠ []) then 3 else if 60 < r.key.size ∨ 3000 < r.val.size then 2 else 0
def Rec.pay (r : Rec) : List UInt8 := (if r.del then 1 else 0) :: UInt8.ofNat r.key.size :: (r.key.data.toList ++ r.val.data.toList)
def Rec.frame (r : Rec) : List UInt8 := frameL r.pay
def Rec.ok (r : Rec) : Prop := r.err = 0
theorem Rec.ok_key {r : Rec} (h : r.ok) : r.key.size ≤ 60 ∧ r.val.size ≤ 3000 := by
 unfold Rec.ok Rec.err at h
 split at h
 · cases h
 · split at h
   · cases h
   · omega
theorem Rec.pay_length (r : Rec) : r.pay.length = 2 + r.key.size + r.val.size := by
 have e1 : r.key.data.toList.length = r.key.size := Array.length_toList
 have e2 : r.val.data.toList.length = r.val.size := Array.length_toList
 simp only [Rec.pay, List.length_cons, List.length_append, e1, e2]; omega
def parseL (p : List UInt8) : Option Rec :=
 match p with
 | f :: n :: q =>
   if f.toNat > 1 ∨ q.length < n.toNat then none else
   let r : Rec := ⟨bs (q.take n.toNat), bs (q.drop n.toNat), decide (f.toNat = 1)⟩
   if r.err = 0 then some r else none
 | _ => none
theorem parse_pay {r : Rec} (h : r.ok) : parseL r.pay = some r := by
 obtain ⟨hk, hv⟩ := Rec.ok_key h
 have e1 : (UInt8.ofNat r.key.size).toNat = r.key.size := by simp [UInt8.toNat_ofNat']; omega
 have e2 : r.key.data.toList.length = r.key.size := Array.length_toList
 unfold Rec.pay parseL
 have e3 : (if r.del then (1 : UInt8) else 0).toNat = if r.del then 1 else 0 := by split <;> rfl
 have e4 : List.take r.key.size (r.key.data.toList ++ r.val.data.toList) = r.key.data.toList := by rw [← e2]; exact List.take_left
 have e5 : List.drop r.key.size (r.key.data.toList ++ r.val.data.toList) = r.val.data.toList := by rw [← e2]; exact List.drop_left
 simp only [e1, e3, e4, e5, bs_eta]
 have e6 : (decide ((if r.del = true then 1 else 0) = 1)) = r.del := by cases r.del <;> rfl
 rw [if_neg (by rw [List.length_append, e2]; split <;> omega), e6]
 exact if_pos h
def appendL (l : List UInt8) (r : Rec) : List UInt8 × Int := if r.err ≠ 0 then ([], r.err) else if 40000 < l.length + r.frame.length then ([], 2) else (l ++ r.frame, 0)
def nextL (l : List UInt8) : Rec × Nat × Int :=
 if l.length < 6 then (Rec.zero, 0, 0) else
 let size := 6 + (l.getD 0 0).toNat * 256 + (l.getD 1 0).toNat
 if l.length < size then (Rec.zero, 0, 0) else
 let p := (l.take size).drop 6
 if frameL p ≠ l.take size then (Rec.zero, 0, 13) else
 match parseL p with
 | some r => (r, size, 0)
 | none => (Rec.zero, 0, 3)
theorem nextL_size (l : List UInt8) : (nextL l).2.1 ≤ l.length := by
 unfold nextL
 split
 · simp
 · rename_i h6
   simp only
   by_cases h1 : l.length < 6 + (l.getD 0 0).toNat * 256 + (l.getD 1 0).toNat
   · rw [if_pos h1]; simp
   · rw [if_neg h1]
     split
     · simp
     · split
       · simp only; omega
       · simp
def scanF : Nat → List UInt8 → List Rec × Nat × Int
 | 0, l => ([], 0, (nextL l).2.2)
 | n + 1, l => if (nextL l).2.1 = 0 then ([], 0, (nextL l).2.2) else
   let r := scanF n (l.drop (nextL l).2.1)
   ((nextL l).1 :: r.1, (nextL l).2.1 + r.2.1, r.2.2)
def scanL (l : List UInt8) : List Rec × Nat × Int := scanF l.length l
theorem scanF_more (n : Nat) : ∀ (m : Nat) (l : List UInt8), l.length ≤ n → l.length ≤ m → scanF n l = scanF m l := by
 induction n with
 | zero =>
   intro m l h1 h2
   have hl : l = [] := List.eq_nil_of_length_eq_zero (by omega)
   subst hl
   cases m <;> simp [scanF, nextL]
 | succ n ih =>
   intro m l h1 h2
   cases m with
   | zero =>
     have hl : l = [] := List.eq_nil_of_length_eq_zero (by omega)
     subst hl
     simp [scanF, nextL]
   | succ m =>
     unfold scanF
     by_cases h0 : (nextL l).2.1 = 0
     · simp [h0]
     · have hs := nextL_size l
       rw [if_neg h0, if_neg h0, ih m _ (by simp; omega) (by simp; omega)]
theorem scanL_step (l : List UInt8) : scanL l = if (nextL l).2.1 = 0 then ([], 0, (nextL l).2.2) else ((nextL l).1 :: (scanL (l.drop (nextL l).2.1)).1, (nextL l).2.1 + (scanL (l.drop (nextL l).2.1)).2.1, (scanL (l.drop (nextL l).2.1)).2.2) := by
 by_cases h0 : (nextL l).2.1 = 0
 · rw [if_pos h0]
   unfold scanL
   cases hl : l.length with
   | zero => rfl
   | succ n => unfold scanF; rw [if_pos h0]
 · rw [if_neg h0]
   have hs := nextL_size l
   have e : scanL l = scanF (l.length - 1 + 1) l := by unfold scanL; rw [show l.length - 1 + 1 = l.length from by omega]
   have e2 : scanF (l.length - 1) (l.drop (nextL l).2.1) = scanL (l.drop (nextL l).2.1) := scanF_more _ _ _ (by simp; omega) (Nat.le_refl _)
   rw [e]
   unfold scanF
   rw [if_neg h0, e2]
def logOf (rs : List Rec) : List UInt8 := (rs.map Rec.frame).flatten
theorem frame_head (p q : List UInt8) (hp : p.length < 65536) : 6 + ((frameL p ++ q).getD 0 0).toNat * 256 + ((frameL p ++ q).getD 1 0).toNat = p.length + 6 := by
 simp [frameL, len2, sum4, UInt8.toNat_ofNat']
 omega
theorem frame_next {r : Rec} (h : r.ok) (q : List UInt8) : nextL (r.frame ++ q) = (r, r.frame.length, 0) := by
 obtain ⟨hk, hv⟩ := Rec.ok_key h
 have hp := r.pay_length
 have hl : r.frame.length = r.pay.length + 6 := frameL_length _
 unfold nextL
 rw [if_neg (by rw [List.length_append]; omega)]
 have e1 : 6 + ((r.frame ++ q).getD 0 0).toNat * 256 + ((r.frame ++ q).getD 1 0).toNat = r.pay.length + 6 := frame_head r.pay q (by omega)
 simp only [e1]
 rw [if_neg (by rw [List.length_append]; omega)]
 have e2 : (r.frame ++ q).take (r.pay.length + 6) = r.frame := by rw [← hl]; exact List.take_left
 have e3 : r.frame.drop 6 = r.pay := by
  unfold Rec.frame frameL
  rw [List.drop_left' (by simp [len2, sum4])]
 rw [e2, e3, if_neg (by simp [Rec.frame]), parse_pay h, hl]
end Go.Proofs.YtjlknaahpjiibaaGreatDoor.J
