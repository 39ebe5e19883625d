/- Part of the proof of topCrashedLaw_holds. -/
import Derived.Lib.SlicesCompact
import Derived.Test.YtjlknaahpjiibaaGreatDoorQab
namespace Go.Proofs.YtjlknaahpjiibaaGreatDoor
set_option linter.unusedVariables false
set_option linter.unusedSimpArgs false
def bl (s : ByteArray) : List UInt8 := s.data.toList
def lb (l : List UInt8) : ByteArray := ⟨l.toArray⟩
theorem lb_bl (s : ByteArray) : lb (bl s) = s := by cases s; simp [lb, bl]
theorem bl_lb (l : List UInt8) : bl (lb l) = l := by simp [lb, bl]
theorem bl_inj {a b : ByteArray} (h : bl a = bl b) : a = b := by rw [← lb_bl a, ← lb_bl b, h]
def srt (l : List ByteArray) : List ByteArray := ((l.map bl).mergeSort fun x y => decide (x ≤ y)).map lb
theorem srt_perm (l : List ByteArray) : (srt l).Perm l := by
 have h := (List.mergeSort_perm (l.map bl) fun x y => decide (x ≤ y)).map lb
 rw [List.map_map, show lb ∘ bl = id from funext lb_bl, List.map_id] at h
 exact h
theorem srt_le (l : List ByteArray) : (srt l).Pairwise fun a b => bl a ≤ bl b := by
 have h := List.pairwise_mergeSort (le := fun (x y : List UInt8) => decide (x ≤ y)) (by intro a b c; simp only [decide_eq_true_eq]; exact fun h k => List.le_trans h k) (by intro a b; simpa using List.le_total a b) (l.map bl)
 unfold srt
 rw [List.pairwise_map]
 exact h.imp fun {a b} hab => by rw [bl_lb, bl_lb]; simpa using hab
theorem srt_mem (l : List ByteArray) (x : ByteArray) : x ∈ srt l ↔ x ∈ l := (srt_perm l).mem_iff
def isW (c : UInt8) : Bool := decide ((c.toNat : Int) = 95) || (decide ((48 : Int) ≤ c.toNat) && decide ((c.toNat : Int) ≤ 57)) || (decide ((97 : Int) ≤ bits .or .u8 c.toNat 32) && decide (bits .or .u8 c.toNat 32 ≤ 122))
theorem isW_space : isW 32 = false := by decide
def runsA : List UInt8 → List UInt8 → List (List UInt8)
 | acc, [] => if acc = [] then [] else [acc]
 | acc, c :: r => if isW c = true then runsA (acc ++ [c]) r else (if acc = [] then [] else [acc]) ++ runsA [] r
theorem runsA_word : ∀ (u acc r : List UInt8), (∀ c ∈ u, isW c = true) → runsA acc (u ++ r) = runsA (acc ++ u) r
 | [], acc, r, _ => by simp
 | c :: u, acc, r, h => by
   have hc := h c (by simp)
   rw [List.cons_append, runsA, if_pos hc, runsA_word u (acc ++ [c]) r (fun x hx => h x (by simp [hx]))]
   simp
theorem compact_get (zs : List (List UInt8)) (x : List UInt8) : x ∈ Lib.compact zs ↔ ∃ j, j < zs.length ∧ Lib.keeps zs.toArray j = true ∧ zs.toArray[j]! = x := by
 unfold Lib.compact Lib.compactUpTo
 simp only [List.mem_map, List.mem_filter, List.mem_range]
 constructor
 · rintro ⟨j, ⟨h1, h2⟩, h3⟩; exact ⟨j, h1, h2, h3⟩
 · rintro ⟨j, h1, h2, h3⟩; exact ⟨j, ⟨h1, h2⟩, h3⟩
theorem get_arr (zs : List (List UInt8)) (j : Nat) (h : j < zs.length) : zs.toArray[j]! = zs[j] := by
 rw [getElem!_pos zs.toArray j (by simpa using h)]
 simp
theorem compact_mem (zs : List (List UInt8)) (x : List UInt8) : x ∈ Lib.compact zs ↔ x ∈ zs := by
 rw [compact_get]
 constructor
 · rintro ⟨j, h1, _, h3⟩
   rw [← h3, get_arr zs j h1]
   exact List.getElem_mem h1
 · intro hx
   obtain ⟨j, hj, he⟩ := List.getElem_of_mem hx
   have : ∀ n (hn : n < zs.length), zs[n] = x → ∃ j, j < zs.length ∧ Lib.keeps zs.toArray j = true ∧ zs.toArray[j]! = x := by
    intro n
    induction n with
    | zero => exact fun hn h => ⟨0, hn, Lib.keeps_lt_one _ _ (by omega), by rw [get_arr zs 0 hn, h]⟩
    | succ n ih =>
      intro hn h
      by_cases hk : zs.toArray[n + 1]! = zs.toArray[n + 1 - 1]!
      · refine ih (by omega) ?_
        rw [get_arr zs _ hn, Nat.add_sub_cancel, get_arr zs n (by omega)] at hk
        rw [← hk, h]
      · exact ⟨n + 1, hn, Lib.keeps_pos hk, by rw [get_arr zs _ hn, h]⟩
   exact this j hj he
theorem compact_len (zs : List (List UInt8)) : (Lib.compact zs).length ≤ zs.length := by
 unfold Lib.compact Lib.compactUpTo
 rw [List.length_map]
 refine Nat.le_trans (List.length_filter_le _ _) ?_
 simp
theorem compact_lt (zs : List (List UInt8)) (h : zs.Pairwise fun a b => a ≤ b) : (Lib.compact zs).Pairwise fun a b => a < b := by
 unfold Lib.compact Lib.compactUpTo
 rw [List.pairwise_map]
 have h1 : ((List.range zs.length).filter (Lib.keeps zs.toArray)).Pairwise (· < ·) := (List.pairwise_lt_range).sublist List.filter_sublist
 refine h1.imp_of_mem ?_
 intro a b ha hb hab
 rw [List.mem_filter, List.mem_range] at ha hb
 have hle : ∀ i j (hi : i < zs.length) (hj : j < zs.length), i ≤ j → zs[i] ≤ zs[j] := by
  intro i j hi hj hij
  rcases Nat.lt_or_eq_of_le hij with h2 | h2
  · exact (List.pairwise_iff_getElem.1 h) i j hi hj h2
  · subst h2; exact List.le_refl _
 have hk : zs.toArray[b]! ≠ zs.toArray[b - 1]! := by
  intro e
  have := Lib.keeps_neg (d := zs.toArray) (m := b) (by omega) e
  rw [hb.2] at this
  cases this
 rw [get_arr zs b hb.1, get_arr zs (b - 1) (by omega)] at hk
 rw [get_arr zs a ha.1, get_arr zs b hb.1]
 have e1 := hle a (b - 1) ha.1 (by omega) (by omega)
 have e2 := hle (b - 1) b (by omega) hb.1 (by omega)
 have e3 : zs[b - 1] < zs[b] := by
  rcases List.le_iff_lt_or_eq.1 e2 with h3 | h3
  · exact h3
  · exact absurd h3.symm hk
 rcases List.le_iff_lt_or_eq.1 e1 with h3 | h3
 · exact List.lt_trans h3 e3
 · rw [h3]; exact e3
def dd (l : List ByteArray) : List ByteArray := (Lib.compact (l.map bl)).map lb
theorem dd_mem (l : List ByteArray) (x : ByteArray) : x ∈ dd l ↔ x ∈ l := by
 unfold dd
 rw [List.mem_map]
 constructor
 · rintro ⟨y, hy, rfl⟩
   rw [compact_mem, List.mem_map] at hy
   obtain ⟨z, hz, rfl⟩ := hy
   rw [lb_bl]; exact hz
 · intro hx
   exact ⟨bl x, (compact_mem _ _).2 (List.mem_map.2 ⟨x, hx, rfl⟩), lb_bl x⟩
theorem dd_lt (l : List ByteArray) (h : l.Pairwise fun a b => bl a ≤ bl b) : (dd l).Pairwise fun a b => bl a < bl b := by
 unfold dd
 rw [List.pairwise_map]
 refine (compact_lt (l.map bl) ?_).imp fun {a b} hab => by rw [bl_lb, bl_lb]; exact hab
 rw [List.pairwise_map]
 exact h
def wordsR (t : ByteArray) : List ByteArray := (runsA [] (bl t)).map lb
def wordsD (t : ByteArray) : List ByteArray := dd (srt (wordsR t))
def words (t : ByteArray) : List ByteArray := (wordsD t).take 400
theorem wordsD_mem (t x : ByteArray) : x ∈ wordsD t ↔ x ∈ wordsR t := by unfold wordsD; rw [dd_mem, srt_mem]
theorem wordsD_lt (t : ByteArray) : (wordsD t).Pairwise fun a b => bl a < bl b := dd_lt _ (srt_le _)
theorem bl_append (a b : ByteArray) : bl (a ++ b) = bl a ++ bl b := by
 unfold bl
 rw [ByteArray.data_append, Array.toList_append]
end Go.Proofs.YtjlknaahpjiibaaGreatDoor
