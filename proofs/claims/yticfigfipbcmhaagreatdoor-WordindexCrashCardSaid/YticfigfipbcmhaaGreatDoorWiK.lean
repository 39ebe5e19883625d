/- Words of a text are valid words (plain). -/
import Derived.Test.YticfigfipbcmhaaGreatDoorWiH
namespace Go.Proofs.YticfigfipbcmhaaGreatDoor
open Go.RowKit Go.ChangeMaps Go.MapKept Go.Shelf
set_option linter.unusedVariables false
theorem runsA_ne : ∀ (l acc x : List UInt8), x ∈ runsA acc l → x ≠ []
  | [], acc, x, h => by
    simp only [runsA] at h
    split at h
    · cases h
    · rename_i hn
      rw [List.mem_singleton.1 h]; exact hn
  | c :: r, acc, x, h => by
    simp only [runsA] at h
    split at h
    · exact runsA_ne r _ x h
    · rcases List.mem_append.1 h with h | h
      · split at h
        · cases h
        · rename_i hn
          rw [List.mem_singleton.1 h]; exact hn
      · exact runsA_ne r _ x h
theorem runsA_isW : ∀ (l acc x : List UInt8), (∀ c ∈ acc, isW c = true) → x ∈ runsA acc l → ∀ c ∈ x, isW c = true
  | [], acc, x, ha, h => by
    simp only [runsA] at h
    split at h
    · cases h
    · rw [List.mem_singleton.1 h]; exact ha
  | c :: r, acc, x, ha, h => by
    simp only [runsA] at h
    split at h
    · rename_i hc
      refine runsA_isW r _ x (fun d hd => ?_) h
      rcases List.mem_append.1 hd with hd | hd
      · exact ha d hd
      · rw [List.mem_singleton.1 hd]; exact hc
    · rcases List.mem_append.1 h with h | h
      · split at h
        · cases h
        · rw [List.mem_singleton.1 h]; exact ha
      · exact runsA_isW r _ x (by simp) h
theorem runsA_sum : ∀ (l acc : List UInt8), ((runsA acc l).map fun x => x.length + 1).sum ≤ l.length + acc.length + 1
  | [], acc => by simp only [runsA]; split <;> simp
  | c :: r, acc => by
    simp only [runsA]
    split
    · have := runsA_sum r (acc ++ [c])
      simp only [List.length_append, List.length_cons, List.length_nil] at this ⊢
      omega
    · have := runsA_sum r []
      rw [List.map_append, List.sum_append]
      simp only [List.length_cons, List.length_nil] at this ⊢
      split <;> simp <;> omega
theorem sub_sum {l m : List Nat} (h : l.Sublist m) : l.sum ≤ m.sum := by
  induction h with
  | slnil => exact Nat.le_refl _
  | cons a _ ih => simp only [List.sum_cons]; omega
  | cons_cons a _ ih => simp only [List.sum_cons]; omega
theorem range_get (zs : List (List UInt8)) : (List.range zs.length).map (fun j => zs.toArray[j]!) = zs := by
  refine List.ext_getElem (by simp) fun i h1 h2 => ?_
  rw [List.getElem_map, List.getElem_range]
  exact get_arr zs i h2
theorem compact_sub (zs : List (List UInt8)) : (Lib.compact zs).Sublist zs := by
  have h : (Lib.compact zs).Sublist ((List.range zs.length).map (fun j => zs.toArray[j]!)) := by
    unfold Lib.compact Lib.compactUpTo
    exact List.filter_sublist.map _
  rwa [range_get] at h
def wsum (l : List ByteArray) : Nat := (l.map fun x => x.size + 1).sum
theorem wsum_take (l : List ByteArray) (k : Nat) (hk : k < l.length) : wsum (l.take (k + 1)) = wsum (l.take k) + (l[k].size + 1) := by
  unfold wsum
  rw [List.take_succ_eq_append_getElem hk, List.map_append, List.sum_append]
  simp
theorem wsum_sub {l m : List ByteArray} (h : l.Sublist m) : wsum l ≤ wsum m := sub_sum (h.map _)
theorem wsum_take_le (l : List ByteArray) (k : Nat) : wsum (l.take k) ≤ wsum l := wsum_sub (List.take_sublist k l)
theorem dd_sub (l : List ByteArray) : (dd l).Sublist l := by
  have h := (compact_sub (l.map bl)).map lb
  rw [List.map_map, show lb ∘ bl = id from funext lb_bl, List.map_id] at h
  exact h
theorem wsum_wordsD (t : ByteArray) : wsum (wordsD t) ≤ t.size + 1 := by
  refine Nat.le_trans (wsum_sub (dd_sub _)) ?_
  have hp : wsum (srt (wordsR t)) = wsum (wordsR t) := by
    unfold wsum
    exact ((srt_perm (wordsR t)).map _).sum_nat
  rw [hp]
  unfold wsum wordsR
  rw [List.map_map]
  have := runsA_sum (bl t) []
  exact this
/-- words that an entry may hold -/
structure WsOk (l : List ByteArray) : Prop where
  lt : l.Pairwise fun a b => bl a < bl b
  ne : ∀ x ∈ l, 0 < x.size
  isw : ∀ x ∈ l, ∀ c ∈ bl x, isW c = true
  sum : wsum l ≤ 2001
  len : l.length ≤ 400
theorem words_ok (t : ByteArray) (ht : t.size ≤ 2000) : WsOk (words t) := by
  have hm : ∀ x ∈ words t, x ∈ wordsR t := fun x hx => (wordsD_mem t x).1 (List.mem_of_mem_take hx)
  have hr : ∀ x ∈ words t, bl x ∈ runsA [] (bl t) := fun x hx => by
    obtain ⟨y, hy, rfl⟩ := List.mem_map.1 (hm x hx)
    rw [bl_lb]; exact hy
  refine ⟨(wordsD_lt t).sublist (List.take_sublist _ _), fun x hx => ?_, fun x hx => runsA_isW _ _ _ (by simp) (hr x hx), ?_, ?_⟩
  · have := runsA_ne _ _ _ (hr x hx)
    have h3 : (bl x).length = x.size := rfl
    have := List.length_pos_iff.2 this
    omega
  · have h1 := wsum_wordsD t
    have h2 := wsum_take_le (wordsD t) 400
    unfold words
    omega
  · unfold words
    rw [List.length_take]
    omega
end Go.Proofs.YticfigfipbcmhaaGreatDoor
