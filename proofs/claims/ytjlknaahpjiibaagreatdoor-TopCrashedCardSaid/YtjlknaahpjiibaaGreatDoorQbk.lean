/- Part of the proof of topCrashedLaw_holds. -/
import Derived.Lib.IndexMore
import Derived.Lib.SlTrimSet
import Derived.Lib.Fold
import Derived.Lib.ItoaNum
import Derived.Lib.Atoi
namespace Go.Proofs.YtjlknaahpjiibaaGreatDoor.Fr
open Go
set_option linter.unusedVariables false
set_option linter.unusedSimpArgs false
theorem ix_crlf : ∀ (h r : List UInt8), (∀ c ∈ h, c ≠ 13) → Lib.index (h ++ 13 :: 10 :: r) [13, 10] = h.length
 | [], r, _ => by simp [Lib.index]
 | c :: h, r, hc => by
   have h1 := ix_crlf h r (fun x hx => hc x (by simp [hx]))
   have h2 : ¬ (13 = c) := fun e => hc c (by simp) e.symm
   rw [List.cons_append, Lib.index, h1]
   have h3 : List.isPrefixOf [13, 10] (c :: (h ++ 13 :: 10 :: r)) = false := by simp [List.isPrefixOf, h2]
   rw [h3]
   have h4 : (((h.length : Nat) : Int) == -1) = false := beq_eq_false_iff_ne.2 (by omega)
   rw [h4]
   simp
theorem ix_none : ∀ (h : List UInt8), (∀ c ∈ h, c ≠ 13) → Lib.index h [13, 10] = -1
 | [], _ => by simp [Lib.index]
 | c :: h, hc => by
   have h1 := ix_none h (fun x hx => hc x (by simp [hx]))
   have h2 : ¬ (13 = c) := fun e => hc c (by simp) e.symm
   rw [Lib.index, h1]
   have h3 : List.isPrefixOf [13, 10] (c :: h) = false := by simp [List.isPrefixOf, h2]
   rw [h3]
   simp
theorem ix_none1 : ∀ (h : List UInt8), (∀ c ∈ h, c ≠ 13) → Lib.index (h ++ [13]) [13, 10] = -1
 | [], _ => by simp [Lib.index, List.isPrefixOf]
 | c :: h, hc => by
   have h1 := ix_none1 h (fun x hx => hc x (by simp [hx]))
   have h2 : ¬ (13 = c) := fun e => hc c (by simp) e.symm
   rw [List.cons_append, Lib.index, h1]
   have h3 : List.isPrefixOf [13, 10] (c :: (h ++ [13])) = false := by simp [List.isPrefixOf, h2]
   rw [h3]
   simp
theorem ix_one : ∀ (h r : List UInt8) (a : UInt8), (∀ c ∈ h, c ≠ a) → Lib.index (h ++ a :: r) [a] = h.length
 | [], r, a, _ => by simp [Lib.index, List.isPrefixOf]
 | c :: h, r, a, hc => by
   have h1 := ix_one h r a (fun x hx => hc x (by simp [hx]))
   have h2 : ¬ (a = c) := fun e => hc c (by simp) e.symm
   rw [List.cons_append, Lib.index, h1]
   have h3 : List.isPrefixOf [a] (c :: (h ++ a :: r)) = false := by simp [List.isPrefixOf, h2]
   rw [h3]
   have h4 : (((h.length : Nat) : Int) == -1) = false := beq_eq_false_iff_ne.2 (by omega)
   rw [h4]
   simp
theorem dg_u8 {d : Nat} (h : d < 10) : (UInt8.ofNat (48 + d)).toNat = 48 + d := by simp [UInt8.toNat_ofNat']; omega
theorem dig_all (m : Nat) : ∀ c ∈ Lib.decDigits m, 48 ≤ c.toNat ∧ c.toNat ≤ 57 := by
 induction m using Nat.strongRecOn with
 | _ m ih =>
   intro c hc
   rw [Lib.decDigits] at hc
   split at hc
   · simp only [List.mem_singleton] at hc
     subst hc
     rw [dg_u8 (by omega)]
     omega
   · rw [List.mem_append, List.mem_singleton] at hc
     rcases hc with hc | hc
     · exact ih (m / 10) (by omega) c hc
     · subst hc
       rw [dg_u8 (by omega)]
       omega
theorem dig_ne (m : Nat) : 1 ≤ (Lib.decDigits m).length := by
 rw [Lib.decDigits_length]
 exact Lib.nDigits_pos m
theorem decFrom_app : ∀ (l : List UInt8) (acc n : Nat) (c : UInt8) (d : Nat), Lib.decFrom acc l = some n → Lib.digitVal c = some d → Lib.decFrom acc (l ++ [c]) = some (n * 10 + d)
 | [], acc, n, c, d, h, hd => by
   simp only [Lib.decFrom, Option.some.injEq] at h
   subst h
   simp [Lib.decFrom, hd]
 | a :: t, acc, n, c, d, h, hd => by
   simp only [Lib.decFrom, List.cons_append] at h ⊢
   cases ha : Lib.digitVal a with
   | none => simp [ha] at h
   | some e =>
     simp only [ha] at h ⊢
     exact decFrom_app t _ n c d h hd
theorem digVal_u8 {d : Nat} (h : d < 10) : Lib.digitVal (UInt8.ofNat (48 + d)) = some d := by
 unfold Lib.digitVal
 rw [dg_u8 h, if_pos (by omega)]
 exact congrArg some (by omega)
theorem dig_from (m : Nat) : Lib.decFrom 0 (Lib.decDigits m) = some m := by
 induction m using Nat.strongRecOn with
 | _ m ih =>
   rw [Lib.decDigits]
   split
   · exact (decFrom_app [] 0 0 _ m rfl (digVal_u8 (by omega))).trans (congrArg some (by omega))
   · rw [decFrom_app _ _ _ _ _ (ih (m / 10) (by omega)) (digVal_u8 (by omega))]
     exact congrArg some (by omega)
theorem nDigits_le (k : Nat) : ∀ u, u < 10 ^ (k + 1) → Lib.nDigits u ≤ k + 1 := by
 induction k with
 | zero =>
   intro u h
   rw [Lib.nDigits_small (by simpa using h)]
   omega
 | succ k ih =>
   intro u h
   by_cases h1 : u < 10
   · rw [Lib.nDigits_small h1]
     omega
   · rw [Lib.nDigits_big h1]
     have := ih (u / 10) (by rw [Nat.pow_succ] at h; omega)
     omega
theorem atoi_dig (n : Nat) : Lib.atoi (Lib.decDigits n) = some (n : Int) := by
 have hd := dig_all n
 have hn := dig_ne n
 have hf := dig_from n
 generalize Lib.decDigits n = L at hd hn hf
 cases L with
 | nil => simp at hn
 | cons c l =>
   have hc := hd c (by simp)
   unfold Lib.atoi
   have h45 : (c == 45) = false := beq_eq_false_iff_ne.2 (fun h => by subst h; simp at hc)
   have h43 : (c == 43) = false := beq_eq_false_iff_ne.2 (fun h => by subst h; simp at hc)
   simp only [Lib.decNat, List.isEmpty_cons, if_false, hf, h45, h43, Option.map_some, Option.some.injEq, Bool.false_eq_true]
theorem itoa_dig (n : Nat) : Lib.itoa (n : Int) = Lib.decDigits n := by
 unfold Lib.itoa
 rw [if_neg (by omega)]
 rfl
theorem drop_none (p : UInt8 → Bool) : ∀ l : List UInt8, (∀ c ∈ l, p c = false) → l.dropWhile p = l
 | [], _ => rfl
 | c :: l, h => by rw [List.dropWhile_cons, h c (by simp)]; rfl
theorem drop_all (p : UInt8 → Bool) : ∀ l : List UInt8, (∀ c ∈ l, p c = true) → l.dropWhile p = []
 | [], _ => rfl
 | c :: l, h => by rw [List.dropWhile_cons, h c (by simp), if_pos rfl]; exact drop_all p l (fun x hx => h x (by simp [hx]))
theorem not_ws {c : UInt8} (h : 48 ≤ c.toNat ∧ c.toNat ≤ 57) : [(32 : UInt8), 9].contains c = false := by
 have h1 : ¬ c = 32 := fun e => by subst e; simp at h
 have h2 : ¬ c = 9 := fun e => by subst e; simp at h
 simp [h1, h2]
theorem is_dig {c : UInt8} (h : 48 ≤ c.toNat ∧ c.toNat ≤ 57) : [(48 : UInt8), 49, 50, 51, 52, 53, 54, 55, 56, 57].contains c = true := by
 have h1 : c = UInt8.ofNat c.toNat := by simp
 generalize c.toNat = k at h h1
 subst h1
 obtain ⟨h0, h9⟩ := h
 rcases (by omega : k = 48 ∨ k = 49 ∨ k = 50 ∨ k = 51 ∨ k = 52 ∨ k = 53 ∨ k = 54 ∨ k = 55 ∨ k = 56 ∨ k = 57) with rfl | rfl | rfl | rfl | rfl | rfl | rfl | rfl | rfl | rfl <;> decide
theorem trim_ws (n : Nat) : Lib.trimS (32 :: Lib.decDigits n) [32, 9] = Lib.decDigits n := by
 have hd := dig_all n
 have hn := dig_ne n
 unfold Lib.trimS Lib.trimRightS Lib.trimLeftS
 rw [List.reverse_cons]
 generalize Lib.decDigits n = L at hd hn
 have h1 : (L.reverse ++ [32]).dropWhile (fun c => [(32 : UInt8), 9].contains c) = L.reverse ++ [32] := by
  cases hL : L.reverse with
  | nil =>
    have := congrArg List.length hL
    simp at this
    subst this
    simp at hn
  | cons c l =>
    have hc : c ∈ L := by rw [← List.mem_reverse, hL]; simp
    rw [List.cons_append, List.dropWhile_cons, not_ws (hd c hc)]
    rfl
 rw [h1]
 simp only [List.reverse_append, List.reverse_reverse, List.reverse_cons, List.reverse_nil, List.nil_append, List.cons_append]
 rw [List.dropWhile_cons, if_pos (by decide)]
 exact drop_none _ _ (fun c hc => not_ws (hd c hc))
theorem trim_dig (n : Nat) : Lib.trimS (Lib.decDigits n) [48, 49, 50, 51, 52, 53, 54, 55, 56, 57] = [] := by
 have hd := dig_all n
 unfold Lib.trimS Lib.trimRightS Lib.trimLeftS
 have h1 : (Lib.decDigits n).reverse.dropWhile (fun c => [(48 : UInt8), 49, 50, 51, 52, 53, 54, 55, 56, 57].contains c) = [] := drop_all _ _ (fun c hc => is_dig (hd c (List.mem_reverse.1 hc)))
 rw [h1]
 rfl
def cl : List UInt8 := [67, 111, 110, 116, 101, 110, 116, 45, 76, 101, 110, 103, 116, 104]
def hdl (n : Nat) : List UInt8 := cl ++ 58 :: 32 :: Lib.decDigits n
theorem hdl_no (n : Nat) : ∀ c ∈ hdl n, c ≠ 13 := by
 intro c hc e
 subst e
 unfold hdl at hc
 rw [List.mem_append, List.mem_cons, List.mem_cons] at hc
 rcases hc with hc | hc | hc | hc
 · exact absurd hc (by decide)
 · exact absurd hc (by decide)
 · exact absurd hc (by decide)
 · have := dig_all n _ hc
   simp at this
theorem hdl_len {n : Nat} (h : n ≤ 4000) : 17 ≤ (hdl n).length ∧ (hdl n).length ≤ 20 := by
 unfold hdl
 rw [List.length_append, List.length_cons, List.length_cons, Lib.decDigits_length]
 have h1 := nDigits_le 3 n (by omega)
 have h2 := Lib.nDigits_pos n
 have h3 : cl.length = 14 := rfl
 omega
def frame (b : ByteArray) : List UInt8 := hdl b.size ++ 13 :: 10 :: 13 :: 10 :: b.data.toList
def flat (L : List ByteArray) : List UInt8 := L.flatMap frame
theorem flat_cons (b : ByteArray) (L : List ByteArray) : flat (b :: L) = frame b ++ flat L := rfl
theorem flat_app (L M : List ByteArray) : flat (L ++ M) = flat L ++ flat M := by simp [flat]
theorem frame_len (b : ByteArray) : (frame b).length = (hdl b.size).length + 4 + b.size := by
 unfold frame
 have : b.data.toList.length = b.size := rfl
 simp only [List.length_append, List.length_cons]
 omega
def Pt (n : Nat) (x : List UInt8) : Prop := ((∀ c ∈ x, c ≠ 13) ∧ x.length ≤ 30) ∨ x = hdl n ++ [13] ∨ x = hdl n ++ 13 :: 10 :: [] ∨ x = hdl n ++ 13 :: 10 :: [13] ∨ ∃ r, x = hdl n ++ 13 :: 10 :: 13 :: 10 :: r ∧ r.length < n
theorem part_pt {b : ByteArray} (hb : b.size ≤ 4000) {k : Nat} (hk : k < (frame b).length) : Pt b.size ((frame b).take k) := by
 rw [frame_len] at hk
 have hl := hdl_len hb
 have hn := hdl_no b.size
 unfold frame Pt
 generalize hdl b.size = H at hk hl hn
 have hbl : b.data.toList.length = b.size := rfl
 by_cases h0 : k ≤ H.length
 · left
   rw [List.take_append_of_le_length h0]
   exact ⟨fun c hc => hn c (List.mem_of_mem_take hc), by rw [List.length_take]; omega⟩
 obtain ⟨j, rfl⟩ : ∃ j, k = H.length + (j + 1) := ⟨k - H.length - 1, by omega⟩
 rw [List.take_append, List.take_of_length_le (by omega), show H.length + (j + 1) - H.length = j + 1 by omega]
 rcases j with _ | _ | _ | j
 · exact Or.inr (Or.inl rfl)
 · exact Or.inr (Or.inr (Or.inl rfl))
 · exact Or.inr (Or.inr (Or.inr (Or.inl rfl)))
 · refine Or.inr (Or.inr (Or.inr (Or.inr ⟨b.data.toList.take j, rfl, ?_⟩)))
   rw [List.length_take]
   omega
theorem pt_nil (n : Nat) : Pt n [] := Or.inl ⟨by simp, by simp⟩
theorem flat_head {b : ByteArray} {L : List ByteArray} {x u : List UInt8} (h : x ++ u = flat (b :: L)) : (∃ y, x = frame b ++ y ∧ y ++ u = flat L) ∨ (x.length < (frame b).length ∧ x = (frame b).take x.length) := by
 rw [flat_cons] at h
 by_cases hl : (frame b).length ≤ x.length
 · left
   refine ⟨x.drop (frame b).length, ?_, ?_⟩
   · have h1 := congrArg (List.take (frame b).length) h
     rw [List.take_append_of_le_length hl, List.take_left] at h1
     have h2 := List.take_append_drop (frame b).length x
     rw [h1] at h2
     exact h2.symm
   · have h1 := congrArg (List.drop (frame b).length) h
     rwa [List.drop_append_of_le_length hl, List.drop_left] at h1
 · right
   refine ⟨by omega, ?_⟩
   have h1 := congrArg (List.take x.length) h
   rwa [List.take_left, List.take_append_of_le_length (by omega)] at h1
theorem flat_take {L : List ByteArray} {i : Nat} (hi : i < L.length) : flat (L.drop i) = frame L[i] ++ flat (L.drop (i + 1)) := by rw [List.drop_eq_getElem_cons hi, flat_cons]
theorem flat_len {L : List ByteArray} {i : Nat} (hi : i < L.length) : (flat (L.take (i + 1))).length = (flat (L.take i)).length + (frame L[i]).length := by
 rw [List.take_add_one, List.getElem?_eq_getElem hi, flat_app, List.length_append]
 simp [flat]
end Go.Proofs.YtjlknaahpjiibaaGreatDoor.Fr
