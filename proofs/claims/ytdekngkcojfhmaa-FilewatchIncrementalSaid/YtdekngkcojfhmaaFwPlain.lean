/- File events, plain: merging, batches, the files that exist. -/
import Derived.Test.YtdekngkcojfhmaaBase
namespace Go.Proofs.Ytdekngkcojfhmaa
set_option linter.unusedVariables false
set_option linter.unusedSimpArgs false
/-- time, path, kind -/
abbrev FEv := Int × ByteArray × Int
def vk (k : Int) : Bool := decide (1 ≤ k ∧ k ≤ 3)
def mrg (a b : Int) : Int := if ¬ vk a ∧ ¬ vk b then 0 else if ¬ vk b then a else if ¬ vk a then b else if a = 1 ∧ b = 3 then 0 else if a = 1 then 1 else if b = 3 then 3 else 2
def kd (o : Option FEv) : Int := (o.map (·.2.2)).getD 0
def mgStep (M : List (ByteArray × FEv)) (e : FEv) : List (ByteArray × FEv) := ups M e.2.1 (e.1, e.2.1, mrg (kd (aget M e.2.1)) e.2.2)
def mgd (E : List FEv) : List (ByteArray × FEv) := E.foldl mgStep []
theorem mgd_snoc (E : List FEv) (e : FEv) : mgd (E ++ [e]) = mgStep (mgd E) e := by simp [mgd, List.foldl_append]
/-- strings as the sort sees them -/
def bl (s : ByteArray) : List UInt8 := s.data.toList
def lb (l : List UInt8) : ByteArray := ⟨l.toArray⟩
theorem lb_bl (s : ByteArray) : lb (bl s) = s := by cases s; simp [lb, bl]
theorem bl_lb (l : List UInt8) : bl (lb l) = l := by simp [lb, bl]
theorem bl_inj {a b : ByteArray} (h : bl a = bl b) : a = b := by rw [← lb_bl a, ← lb_bl b, h]
def srt (l : List ByteArray) : List ByteArray := ((l.map bl).mergeSort fun x y => decide (x ≤ y)).map lb
theorem le_total' (a b : List UInt8) : a ≤ b ∨ b ≤ a := List.le_total a b
theorem srt_perm (l : List ByteArray) : (srt l).Perm l := by
  have h := (List.mergeSort_perm (l.map bl) fun x y => decide (x ≤ y)).map lb
  rw [List.map_map, show lb ∘ bl = id from funext lb_bl, List.map_id] at h
  exact h
theorem srt_le (l : List ByteArray) : (srt l).Pairwise fun a b => bl a ≤ bl b := by
  have h := List.pairwise_mergeSort (le := fun (x y : List UInt8) => decide (x ≤ y)) (by intro a b c; simp only [decide_eq_true_eq]; exact fun h k => List.le_trans h k) (by intro a b; simpa using le_total' a b) (l.map bl)
  unfold srt
  rw [List.pairwise_map]
  exact h.imp fun {a b} hab => by rw [bl_lb, bl_lb]; simpa using hab
theorem srt_congr {l m : List ByteArray} (h : l.Perm m) : srt l = srt m := by
  have hp : (srt l).Perm (srt m) := ((srt_perm l).trans h).trans (srt_perm m).symm
  refine hp.eq_of_pairwise (le := fun a b => bl a ≤ bl b) (fun a b _ _ h1 h2 => bl_inj (List.le_antisymm h1 h2)) (srt_le l) (srt_le m)
theorem srt_lt {l : List ByteArray} (h : l.Nodup) : (srt l).Pairwise fun a b => bl a < bl b := by
  have hn : (srt l).Nodup := (srt_perm l).nodup_iff.2 h
  refine (List.Pairwise.and (srt_le l) hn).imp fun {a b} hab => ?_
  rcases List.le_iff_lt_or_eq.1 hab.1 with h1 | h1
  · exact h1
  · exact absurd (bl_inj h1) hab.2
theorem srt_mem (l : List ByteArray) (x : ByteArray) : x ∈ srt l ↔ x ∈ l := (srt_perm l).mem_iff
/-- the events of a batch -/
def nbE (E : List FEv) : List FEv := (srt ((mgd E).map (·.1))).filterMap fun k => (aget (mgd E) k).filter fun e => decide (e.2.2 ≠ 0)
/-- batches: 'G' is the group at work -/
def bat (d : Int) : List FEv → List FEv → List (Int × List FEv)
  | _, [] => []
  | G, e :: rest =>
    if rest.length ≠ 0 ∧ (rest.headD (0, ByteArray.empty, 0)).1 - e.1 < d then bat d (G ++ [e]) rest
    else (if nbE (G ++ [e]) = [] then [] else [(e.1 + d, nbE (G ++ [e]))]) ++ bat d [] rest
end Go.Proofs.Ytdekngkcojfhmaa
