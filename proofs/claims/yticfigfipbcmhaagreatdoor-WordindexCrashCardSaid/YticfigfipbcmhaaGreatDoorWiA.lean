/- The sort and slices.Compact at strings, one behind the other. -/
import Derived.Test.YticfigfipbcmhaaGreatDoorWiStr
namespace Go.Proofs.YticfigfipbcmhaaGreatDoor
open Go.RowKit Go.ChangeMaps Go.MapKept Go.Shelf Go.Sort
set_option linter.unusedVariables false
set_option linter.unusedSimpArgs false
/-- strings read, in cells that may be written -/
def StrsU (p : Nat → Prop) (w : World) (v : Value) (l : List ByteArray) : Prop :=
  (l = [] ∧ ∃ a cap, v = .slice a 0 cap ∧ cap ≤ maxLen) ∨ ∃ g cap, v = .slice (some ⟨g, 0, none⟩) l.length cap ∧ p g ∧ g < w.heap.size ∧ l.length ≤ cap ∧ cap ≤ maxLen ∧ Holds encStr w g 0 (l.map bl).toArray
theorem holds_strs {p : Nat → Prop} {w : World} {g cap : Nat} {l : List ByteArray} {d : Array (List UInt8)} (hp : p g) (h1 : l.length ≤ cap) (h2 : cap ≤ maxLen) (hl : l.length ≤ d.size) (hd : ∀ j (h : j < l.length), d[j]! = bl l[j]) (h : Holds encStr w g 0 d) : StrsP p w (.slice (some ⟨g, 0, none⟩) l.length cap) l := by
  refine ⟨_, cap, rfl, h1, h2, fun _ => ⟨g, 0, rfl, hp, fun j hj => ?_⟩⟩
  have := (h j (by omega)).1
  unfold rdStr
  rw [Nat.mul_one, this, hd j hj]
  simp only [encStr]
  exact congrArg (fun x => some (Value.string x)) (lb_bl l[j])
theorem StrsU.strs {p : Nat → Prop} {w : World} {v : Value} {l : List ByteArray} (h : StrsU p w v l) : StrsP p w v l := by
  rcases h with ⟨rfl, a, cap, rfl, hc⟩ | ⟨g, cap, rfl, hp, _, h1, h2, h3⟩
  · exact ⟨a, cap, rfl, Nat.zero_le _, hc, fun h => absurd h (by simp)⟩
  · refine holds_strs hp h1 h2 (by simp) (fun j hj => ?_) h3
    rw [getElem!_pos _ j (by simpa using hj)]
    simp
theorem sortStrsU_any (v : Value) (ks : List ByteArray) (base : Nat) (w : World) (h : w.ownsRow base 9 1 v ks.length (ks.map sk)) (hl : ks.length < 4611686018427387904) :
    Calls Tryz.prog 27 #[v] w fun e w' => e = .returned (.tuple #[]) ∧ StrsU (fun g => base ≤ g ∧ g < w.heap.size) w' v (srt ks) ∧ Chg v.ownBlock.toList w w' := by
  obtain ⟨a, cap, rfl⟩ := ownsRow_shape h
  rcases h.2 with ⟨hv, hx⟩ | ⟨g, cap', cur', hv, hge, hh, h3, h4, h5, h6⟩
  · have hk : ks = [] := List.eq_nil_of_length_eq_zero hx
    subst hk
    refine (Tryz.slices_Sort_string_none a cap w).mono ?_
    rintro e w' ⟨rfl, rfl⟩
    refine ⟨rfl, ?_, Chg.refl _ _⟩
    rw [srt_nil]
    simp only [List.length_nil, Value.slice.injEq] at hv
    obtain ⟨rfl, _, rfl⟩ := hv
    exact Or.inl ⟨rfl, none, 0, rfl, Nat.zero_le _⟩
  · cases hv
    have hH : Holds encStr w g 0 (ks.map bl).toArray := by
      intro j hj
      have hj' : j < ks.length := by simpa using hj
      refine ⟨?_, frozen_of_heap hh⟩
      have := World.ownsRow.cells h (g := g) rfl j (sk ks[j]) (by simp [hj'])
      rw [Addr.add_lit] at this
      rw [this, getElem!_pos (ks.map bl).toArray j hj]
      simp [sk, encStr]
      exact (lb_bl _).symm
    have hcon := Tryz.slices_Sort_string g 0 cap (ks.map bl) w hH (lt_of_obj hh) (by simpa using hl)
    rw [List.length_map] at hcon
    refine hcon.mono ?_
    rintro e w' ⟨rfl, n, os, rfl⟩
    refine ⟨rfl, ?_, putRow_chg _ _ _ _ _ _⟩
    have hsz : (((ks.map bl).mergeSort fun x y => decide (x ≤ y)).toArray).size = ((ks.map bl).toArray).size := by simp
    have hP := holds_grow encStr _ os g 0 _ (by simp [putRow, mapBlock, ahead]; exact lt_of_obj hh) (holds_putRow encStr _ g 0 _ _ (holds_ahead encStr w n g 0 _ hH) hsz)
    have hlen : (srt ks).length = ks.length := (srt_perm ks).length_eq
    have hb : (srt ks).map bl = (ks.map bl).mergeSort fun x y => decide (x ≤ y) := by
      unfold srt
      rw [List.map_map, show bl ∘ lb = id from funext bl_lb, List.map_id]
    refine Or.inr ⟨g, cap, by rw [hlen], ⟨hge, lt_of_obj hh⟩, ?_, by omega, by omega, by rw [hb]; exact hP⟩
    have := lt_of_obj hh
    simp [grow, putRow, mapBlock, ahead]
    omega
theorem putRow_chg2 (w : World) (blk off n : Nat) (d : Array (List UInt8)) : Chg [blk] w (putRow encStr (Go.Sort.ahead w n) blk off d) := by
  refine ⟨rfl, rfl, rfl, ?_, fun g hg hn => ?_⟩
  · simp [putRow, mapBlock, ahead]
  · show ((w.heap.modify blk (onCells (putCells encStr off d))))[g]? = w.heap[g]?
    simp [Array.getElem?_modify, Ne.symm (by simpa using hn : g ≠ blk)]
theorem compactStrs_any (p : Nat → Prop) (w : World) (v : Value) (l : List ByteArray) (h : StrsU p w v l) :
    Calls Tryz.prog 50 #[v] w fun e w' => ∃ a cap, e = .returned (.slice a (dd l).length cap) ∧ (dd l).length ≤ cap ∧ cap ≤ maxLen ∧ StrsP p w' (.slice a (dd l).length cap) (dd l) ∧ Chg v.ownBlock.toList w w' := by
  rcases h with ⟨rfl, a, cap, rfl, hc⟩ | ⟨g, cap, rfl, hp, hg, h1, h2, h3⟩
  · refine (Tryz.slices_Compact_string_empty a cap w).mono ?_
    rintro e w' ⟨rfl, rfl⟩
    have hd : dd [] = [] := rfl
    rw [hd]
    exact ⟨a, cap, rfl, Nat.zero_le _, hc, ⟨a, cap, rfl, Nat.zero_le _, hc, fun h => absurd h (by simp)⟩, Chg.refl _ _⟩
  · have hcon := Tryz.slices_Compact_string g 0 cap (l.map bl) w h3 (by simp; unfold maxLen at h2; omega) (by simpa using h1)
    rw [List.length_map] at hcon
    refine hcon.mono ?_
    rintro e w' ⟨rfl, q, rfl⟩
    have hdl : (dd l).length = (Lib.compact (l.map bl)).length := by unfold dd; simp
    have hle := compact_len (l.map bl)
    rw [List.length_map] at hle
    have hsz : ((Lib.compact (l.map bl) ++ List.replicate (l.length - (Lib.compact (l.map bl)).length) []).toArray).size = ((l.map bl).toArray).size := by
      simp only [List.size_toArray, List.length_append, List.length_replicate, List.length_map]
      omega
    have hP := holds_putRow encStr _ g 0 _ _ (holds_ahead encStr w q g 0 _ h3) hsz
    refine ⟨some ⟨g, 0, none⟩, cap, by rw [hdl], by omega, h2, holds_strs hp (by omega) h2 (by rw [hsz]; simp; omega) (fun j hj => ?_) hP, putRow_chg2 _ _ _ _ _⟩
    rw [getElem!_pos _ j (by rw [hsz]; simp; omega)]
    simp only [List.getElem_toArray]
    rw [List.getElem_append_left (by omega)]
    exact (bl_lb _).symm.trans (congrArg bl (List.getElem_map lb).symm)
end Go.Proofs.YticfigfipbcmhaaGreatDoor
