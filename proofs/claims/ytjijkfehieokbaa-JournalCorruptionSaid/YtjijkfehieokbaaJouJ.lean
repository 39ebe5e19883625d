/- JournalCorruption: the plain law. -/
import Derived.Test.YtjijkfehieokbaaJouI
namespace Go.Proofs.Ytjijkfehieokbaa
open Go.RowKit
set_option linter.unusedVariables false
theorem bad_next (p : List UInt8) (S : Nat) (hp : p.length < 65536) (hS : S < 4294967296) (hne : S ≠ ck (len2 p.length ++ p)) :
    nextL (len2 p.length ++ sum4 S ++ p) = (Rec.zero, 0, 13) := by
  have hl : (len2 p.length ++ sum4 S ++ p).length = p.length + 6 := by simp [len2, sum4]
  have e1 : 6 + ((len2 p.length ++ sum4 S ++ p).getD 0 0).toNat * 256 + ((len2 p.length ++ sum4 S ++ p).getD 1 0).toNat = p.length + 6 := by
    simp [len2, UInt8.toNat_ofNat']
    omega
  have e2 : (len2 p.length ++ sum4 S ++ p).take (p.length + 6) = len2 p.length ++ sum4 S ++ p := List.take_of_length_le (by omega)
  have e3 : (len2 p.length ++ sum4 S ++ p).drop 6 = p := List.drop_left' (by simp [len2, sum4])
  unfold nextL
  rw [hl, if_neg (by omega)]
  simp only [e1]
  rw [if_neg (by omega), e2, e3, if_pos]
  intro he
  unfold frameL at he
  have h1 := List.append_cancel_right he
  have h2 := List.append_cancel_left h1
  exact hne (sum4_inj hS (ck_lt _) h2.symm)
theorem xor_ne (c b : UInt8) (hb : b ≠ 0) : c ≠ c ^^^ b := by
  intro h
  apply hb
  have := congrArg (c ^^^ ·) h
  simp only [← UInt8.xor_assoc, UInt8.xor_self, UInt8.zero_xor] at this
  exact this.symm
theorem corrupt_next (r : Rec) (h : r.ok) (i : Nat) (hi : i < r.pay.length) (b : UInt8) (hb : b ≠ 0) :
    nextL (r.frame.take (6 + i) ++ (r.frame.getD (6 + i) 0 ^^^ b) :: r.frame.drop (6 + i + 1)) = (Rec.zero, 0, 13) := by
  obtain ⟨hk, hv⟩ := Rec.ok_key h
  have hpl := r.pay_length
  generalize hn : r.pay.length = n at hpl
  have hpc : r.pay = r.pay.take i ++ r.pay.getD i 0 :: r.pay.drop (i + 1) := by
    rw [List.getD_eq_getElem?_getD, List.getElem?_eq_getElem hi]
    simp
  have hlp : (r.pay.take i).length = i := by simp; omega
  have hlq : (r.pay.drop (i + 1)).length = n - (i + 1) := by simp; omega
  have hF : r.frame = (len2 n ++ sum4 (ck (len2 n ++ r.pay))) ++ r.pay := by unfold Rec.frame frameL; rw [hn]
  generalize r.pay.take i = p at hpc hlp
  generalize r.pay.getD i 0 = c at hpc
  generalize r.pay.drop (i + 1) = q at hpc hlq
  rw [hpc] at hF hn
  have hh : ∀ S, (len2 n ++ sum4 S).length = 6 := fun S => by simp [len2, sum4]
  obtain ⟨S, hS⟩ : ∃ S, ck (len2 n ++ (p ++ c :: q)) = S := ⟨_, rfl⟩
  rw [hS] at hF
  have k1 : r.frame.take (6 + i) = (len2 n ++ sum4 S) ++ p := by
    rw [hF, ← hh S, List.take_length_add_append, List.take_left' hlp]
  have k2 : r.frame.getD (6 + i) 0 = c := by
    rw [hF, List.getD_eq_getElem?_getD, List.getElem?_append_right (by rw [hh]; omega), hh, Nat.add_sub_cancel_left, List.getElem?_append_right (by omega), hlp]
    simp
  have k3 : r.frame.drop (6 + i + 1) = q := by
    rw [hF, show 6 + i + 1 = (len2 n ++ sum4 S).length + (i + 1) from by rw [hh]; omega, List.drop_length_add_append, show i + 1 = p.length + 1 from by rw [hlp], List.drop_length_add_append]
    rfl
  rw [k1, k2, k3]
  have hL : (p ++ (c ^^^ b) :: q).length = n := by rw [← hn]; simp
  have hbn := bad_next (p ++ (c ^^^ b) :: q) S (by omega) (by rw [← hS]; exact ck_lt _) (by
    rw [hL, ← hS, ← List.append_assoc, ← List.append_assoc]
    exact ck_turn _ q (xor_ne c b hb))
  rw [hL] at hbn
  rw [← hbn]
  simp
/-- reading the damaged journal -/
theorem corrupt_scan (rs : List Rec) (r : Rec) (hok : ∀ x ∈ rs, x.ok) (h : r.ok) (i : Nat) (hi : i < r.pay.length) (b : UInt8) (hb : b ≠ 0) (at' : Nat) (ha : at' = (logOf rs).length + 6 + i) :
    scanL ((logOf rs ++ r.frame).take at' ++ ((logOf rs ++ r.frame).getD at' 0 ^^^ b) :: (logOf rs ++ r.frame).drop (at' + 1)) = (rs, (logOf rs).length, 13) := by
  subst ha
  have e0 : (logOf rs ++ r.frame).getD ((logOf rs).length + 6 + i) 0 = r.frame.getD (6 + i) 0 := by
    rw [List.getD_eq_getElem?_getD, List.getD_eq_getElem?_getD, List.getElem?_append_right (by omega)]
    congr 2
    omega
  rw [e0, show (logOf rs).length + 6 + i + 1 = (logOf rs).length + (6 + i + 1) from by omega, show (logOf rs).length + 6 + i = (logOf rs).length + (6 + i) from by omega, List.take_length_add_append, List.drop_length_add_append, List.append_assoc, scan_log rs hok, scanL_step, corrupt_next r h i hi b hb]
  simp
end Go.Proofs.Ytjijkfehieokbaa
