/- Part of the proof of topCrashedLaw_holds. -/
import Derived.Maps.AppendAt
import Derived.Deep.Slices
import Derived.ProofKit
import Derived.Deep.DeepCutAuto
import Derived.Deep.RegionLaw
import Derived.Test.YtjlknaahpjiibaaGreatDoorQac
import Derived.Test.YtjlknaahpjiibaaGreatDoorQad
import Derived.Test.YtjlknaahpjiibaaGreatDoorQae
namespace Go.Proofs.YtjlknaahpjiibaaGreatDoor
open List (getElem_toArray getElem_cons_zero getElem_cons_succ setIfInBounds_toArray set_cons_zero set_cons_succ)
open Go.RowKit Go.ChangeMaps Go.MapKept Go.Shelf Go.Sort
set_option linter.unusedVariables false
set_option linter.unusedSimpArgs false
def sk (s : ByteArray) : Value := .string s
def rdStr (w : World) (ad : Addr) (x : ByteArray) : Prop := w.cell? ad = some (.string x)
def StrsP (p : Nat → Prop) (w : World) (v : Value) (xs : List ByteArray) : Prop := SlR p 1 rdStr w v xs
theorem StrsP.shape {p : Nat → Prop} {w : World} {v : Value} {xs : List ByteArray} (h : StrsP p w v xs) : ∃ a cap, v = .slice a xs.length cap ∧ xs.length ≤ maxLen ∧ xs.length ≤ cap := SlR.shape h
theorem StrsP.kept {p : Nat → Prop} {S : Nat → Prop} {w w' : World} {v : Value} {xs : List ByteArray} (h : StrsP p w v xs) (hc : ChgP S w w') (hS : ∀ k, p k → ¬ S k) : StrsP p w' v xs :=
 SlR.imp h (fun _ h => h) fun ad x hp hx => (hc.cell (lt_of_cell hx) (hS _ hp)).trans hx
theorem StrsP.same {p : Nat → Prop} {w w' : World} {v : Value} {xs : List ByteArray} (h : StrsP p w v xs) (hc : Chg [] w w') : StrsP p w' v xs := h.kept (hc.p (S := fun _ => False)) fun _ _ h => h
theorem StrsP.imp {p q : Nat → Prop} {w : World} {v : Value} {xs : List ByteArray} (h : StrsP p w v xs) (hp : ∀ g, p g → q g) : StrsP q w v xs := SlR.imp h hp fun _ _ _ h => h
theorem StrsP.cell {p : Nat → Prop} {w : World} {a : Option Addr} {n cap : Nat} {xs : List ByteArray} (h : StrsP p w (.slice a n cap) xs) (i : Nat) (hi : i < xs.length) :
 ∃ g off, a = some ⟨g, off, none⟩ ∧ p g ∧ w.cell? ⟨g, off + i, none⟩ = some (.string (xs.getD i ⟨#[]⟩)) := by
 obtain ⟨g, off, rfl, hp, h⟩ := SlR.at h i hi ⟨#[]⟩
 exact ⟨g, off, rfl, hp, by rw [Nat.mul_one] at h; exact h⟩
theorem StrsP.take {p : Nat → Prop} {w : World} {a : Option Addr} {n cap : Nat} {E : List ByteArray} (h : StrsP p w (.slice a n cap) E) (k : Nat) (hk : k ≤ E.length) : StrsP p w (.slice a k cap) (E.take k) := by
 obtain ⟨a', cap', hv, h1, h2, h3⟩ := h
 simp only [Value.slice.injEq] at hv
 obtain ⟨rfl, rfl, rfl⟩ := hv
 have hl : (E.take k).length = k := by simp; omega
 refine ⟨a, cap, by rw [hl], by omega, h2, fun h0 => ?_⟩
 obtain ⟨g, off, rfl, hp, hc⟩ := h3 (by omega)
 refine ⟨g, off, rfl, hp, fun j hj => ?_⟩
 rw [List.getElem_take]
 exact hc j (by omega)
def OwnS (w : World) (base : Nat) (v : Value) (l : List ByteArray) : Prop := w.ownsRow base 9 1 v l.length (l.map sk)
theorem OwnS.nil (w : World) (base : Nat) : OwnS w base (.slice none 0 0) [] := ⟨rfl, .inl ⟨rfl, rfl⟩⟩
theorem OwnS.kept {w w' : World} {base : Nat} {v : Value} {xs : List ByteArray} {S : Nat → Prop} (h : OwnS w base v xs) (hc : ChgP S w w') (hS : ∀ g, v.ownBlock = some g → ¬ S g) : OwnS w' base v xs :=
 ownsRow_kept h fun g hg hl => hc.block g hl (hS g hg)
theorem OwnS.same {w w' : World} {base : Nat} {v : Value} {xs : List ByteArray} (h : OwnS w base v xs) (hc : Chg [] w w') : OwnS w' base v xs := h.kept (hc.p (S := fun _ => False)) fun _ _ h => h
theorem OwnS.strs {w : World} {base : Nat} {v : Value} {xs : List ByteArray} (h : OwnS w base v xs) : StrsP (fun g => base ≤ g ∧ g < w.heap.size ∧ v.ownBlock = some g) w v xs := by
 obtain ⟨a, cap, rfl⟩ := ownsRow_shape h
 rcases h.2 with ⟨hv, hx⟩ | ⟨g, cap', cur', hv, hge, hh, h3, h4, h5, h6⟩
 · have hk : xs = [] := List.eq_nil_of_length_eq_zero hx
   subst hk
   simp only [List.length_nil, Value.slice.injEq] at hv
   obtain ⟨rfl, _, rfl⟩ := hv
   exact SlR.nil _ _ _ _
 · cases hv
   refine ⟨_, cap, rfl, by omega, by omega, fun _ => ⟨g, 0, rfl, ⟨hge, lt_of_obj hh, rfl⟩, fun j hj => ?_⟩⟩
   have := World.ownsRow.cells h (g := g) rfl j (sk xs[j]) (by simp [hj])
   rw [Addr.add_lit] at this
   unfold rdStr
   rw [Nat.mul_one]
   exact this
theorem Tryz.infoStr : (Tryz.prog.info? 9).map (fun i => (i.zero, i.size, i.bytes)) = some (some (.string ⟨#[]⟩), 1, 16) := by kernel_rfl
theorem run_append_strs (w : World) (ty : TypeId) (B : Nat) (p : Nat → Prop) (v sv : Value) (l m : List ByteArray) (hv : OwnS w B v l) (hs : StrsP p w sv m) (hlen : l.length + m.length ≤ 100000) (hB : B ≤ w.heap.size) :
 ∃ v' w', (Builtin.append_ #[22, 22] ty #[v, sv]).run Tryz.prog w = .ok v' w' ∧ OwnS w' B v' (l ++ m) ∧ Chg v.ownBlock.toList w w' := by
 obtain ⟨i0, hi, hz0, hz1, hz2⟩ := info_parts Tryz.infoStr
 obtain ⟨a, cap, rfl, _, _⟩ := hs.shape
 by_cases h0 : m = []
 · subst h0
   refine ⟨v, w, ?_, by simpa using hv, Chg.refl _ _⟩
   rcases hv.2 with ⟨rfl, h1⟩ | ⟨g, cap', cur, rfl, _, _, hnc, _⟩
   · cases a <;> simp [Builtin.append_, run_underlying Tryz.underlying22, sizeOf, typeInfo, hi, Builtin.lenOf, Builtin.firstCells, h1, loadCells, loadCellsFrom, Result.andThen]
   · cases a <;> simp [Builtin.append_, run_underlying Tryz.underlying22, sizeOf, typeInfo, hi, Builtin.lenOf, Builtin.firstCells, hnc, storeCells, loadCells, loadCellsFrom, Result.andThen]
 · have hpos : 0 < m.length := List.length_pos_iff.2 h0
   obtain ⟨g, off, rfl, hp, hc⟩ : ∃ g off, a = some ⟨g, off, none⟩ ∧ p g ∧ ∀ j (h : j < m.length), rdStr w ⟨g, off + j * 1, none⟩ m[j] := by
    obtain ⟨a', cap', hv', _, _, h3⟩ := hs
    simp only [Value.slice.injEq] at hv'
    obtain ⟨rfl, _, _⟩ := hv'
    exact h3 hpos
   obtain ⟨v', w', hr, h2, h3, _, h5⟩ := run_append_own_at (P := Tryz.prog) w B 22 ty 9 i0 (.string ⟨#[]⟩) 1 16 Tryz.underlying22 hi hz0 hz1 hz2 rfl (by decide) v l.length (l.map sk) hv ⟨g, off, none⟩ m.length cap (m.map sk) (by simp) (fun j u hj => by
    have hj' : j < m.length := by have := (List.getElem?_eq_some_iff.1 hj).1; simpa using this
    have := hc j hj'
    unfold rdStr at this
    rw [Nat.mul_one] at this
    rw [Addr.add_lit, this]
    simpa [hj', sk] using hj) (fun u hu => by
    obtain ⟨x, _, rfl⟩ := List.mem_map.1 hu
    rfl) (by unfold maxLen; omega) (by omega) hB
   refine ⟨v', w', hr, ?_, (Chg.refl _ w).grown h3 (by intro k hk; left; simp [hk])⟩
   unfold OwnS
   rw [List.map_append, List.length_append]
   exact h2
theorem str1_at {w : World} {n : Nat} {x : ByteArray} {T : TypeId} {fr : Nat × Nat} (h : w.heap[n]? = some (.cells #[.string x] T fr)) : StrsP (fun g => g = n) w (.slice (some ⟨n, 0, none⟩) 1 1) [x] := by
 refine ⟨_, 1, rfl, Nat.le_refl _, by simp [maxLen], fun _ => ⟨n, 0, rfl, rfl, fun j hj => ?_⟩⟩
 match j, hj with
 | 0, _ => exact cell_of_heap h rfl
theorem putRow_chg (w : World) (blk off n : Nat) (d : Array (List UInt8)) (os : Array Obj) : Chg [blk] w (grow (putRow encStr (Go.Sort.ahead w n) blk off d) os) := by
 refine ⟨rfl, rfl, rfl, ?_, fun g hg hn => ?_⟩
 · simp [grow, putRow, mapBlock, ahead]
 · show (((w.heap.modify blk (onCells (putCells encStr off d)))) ++ os)[g]? = w.heap[g]?
   rw [Array.getElem?_append_left (by simpa using hg)]
   simp [Array.getElem?_modify, Ne.symm (by simpa using hn : g ≠ blk)]
theorem srt_nil : srt [] = [] := List.length_eq_zero_iff.1 (srt_perm []).length_eq
theorem sortStrs_any (v : Value) (ks : List ByteArray) (base : Nat) (w : World) (h : w.ownsRow base 9 1 v ks.length (ks.map sk)) (hl : ks.length < 4611686018427387904) :
 Calls Tryz.prog 38 #[v] w fun e w' => e = .returned (.tuple #[]) ∧ StrsP (fun g => base ≤ g ∧ g < w.heap.size) w' v (srt ks) ∧ Chg v.ownBlock.toList w w' := by
 obtain ⟨a, cap, rfl⟩ := ownsRow_shape h
 rcases h.2 with ⟨hv, hx⟩ | ⟨g, cap', cur', hv, hge, hh, h3, h4, h5, h6⟩
 · have hk : ks = [] := List.eq_nil_of_length_eq_zero hx
   subst hk
   refine (Tryz.slices_Sort_string_none a cap w).mono ?_
   rintro e w' ⟨rfl, rfl⟩
   refine ⟨rfl, ?_, Chg.refl _ _⟩
   rw [srt_nil]
   simp only [List.length_nil, Value.slice.injEq] at hv
   obtain ⟨rfl, _, rfl⟩ := hv
   exact SlR.nil _ _ _ _
 · cases hv
   have hH : Holds encStr w g 0 (ks.map bl).toArray := by
    intro j hj
    have hj' : j < ks.length := by simpa using hj
    refine ⟨?_, frozen_of_heap hh⟩
    have := World.ownsRow.cells h (g := g) rfl j (sk ks[j]) (by simp [hj'])
    rw [Addr.add_lit] at this
    rw [this, getElem!_pos (ks.map bl).toArray j hj]
    simp [sk, encStr]
    exact (lb_bl _).symm
   have hcon := Tryz.slices_Sort_string g 0 cap (ks.map bl) w hH (lt_of_obj hh) (by simpa using hl)
   rw [List.length_map] at hcon
   refine hcon.mono ?_
   rintro e w' ⟨rfl, n, os, rfl⟩
   refine ⟨rfl, ?_, putRow_chg _ _ _ _ _ _⟩
   have hsz : (((ks.map bl).mergeSort fun x y => decide (x ≤ y)).toArray).size = ((ks.map bl).toArray).size := by simp
   have hP := holds_grow encStr _ os g 0 _ (by simp [putRow, mapBlock, ahead]; exact lt_of_obj hh) (holds_putRow encStr _ g 0 _ _ (holds_ahead encStr w n g 0 _ hH) hsz)
   have hlen : (srt ks).length = ks.length := (srt_perm ks).length_eq
   refine ⟨some ⟨g, 0, none⟩, cap, by rw [hlen], by omega, by omega, fun _ => ⟨g, 0, rfl, ⟨hge, lt_of_obj hh⟩, fun j hj => ?_⟩⟩
   have hj2 : j < (((ks.map bl).mergeSort fun x y => decide (x ≤ y)).toArray).size := by rw [hsz]; simpa [hlen] using hj
   have := (hP j hj2).1
   unfold rdStr
   rw [Nat.mul_one, this, getElem!_pos _ j hj2]
   simp [srt, encStr, lb]
def StrsU (p : Nat → Prop) (w : World) (v : Value) (l : List ByteArray) : Prop :=
 (l = [] ∧ ∃ a cap, v = .slice a 0 cap ∧ cap ≤ maxLen) ∨ ∃ g cap, v = .slice (some ⟨g, 0, none⟩) l.length cap ∧ p g ∧ g < w.heap.size ∧ l.length ≤ cap ∧ cap ≤ maxLen ∧ Holds encStr w g 0 (l.map bl).toArray
theorem holds_strs {p : Nat → Prop} {w : World} {g cap : Nat} {l : List ByteArray} {d : Array (List UInt8)} (hp : p g) (h1 : l.length ≤ cap) (h2 : cap ≤ maxLen) (hl : l.length ≤ d.size) (hd : ∀ j (h : j < l.length), d[j]! = bl l[j]) (h : Holds encStr w g 0 d) : StrsP p w (.slice (some ⟨g, 0, none⟩) l.length cap) l := by
 refine ⟨_, cap, rfl, h1, h2, fun _ => ⟨g, 0, rfl, hp, fun j hj => ?_⟩⟩
 have := (h j (by omega)).1
 unfold rdStr
 rw [Nat.mul_one, this, hd j hj]
 simp only [encStr]
 exact congrArg (fun x => some (Value.string x)) (lb_bl l[j])
theorem sortStrsU_any (v : Value) (ks : List ByteArray) (base : Nat) (w : World) (h : w.ownsRow base 9 1 v ks.length (ks.map sk)) (hl : ks.length < 4611686018427387904) :
 Calls Tryz.prog 38 #[v] w fun e w' => e = .returned (.tuple #[]) ∧ StrsU (fun g => base ≤ g ∧ g < w.heap.size) w' v (srt ks) ∧ Chg v.ownBlock.toList w w' := by
 obtain ⟨a, cap, rfl⟩ := ownsRow_shape h
 rcases h.2 with ⟨hv, hx⟩ | ⟨g, cap', cur', hv, hge, hh, h3, h4, h5, h6⟩
 · have hk : ks = [] := List.eq_nil_of_length_eq_zero hx
   subst hk
   refine (Tryz.slices_Sort_string_none a cap w).mono ?_
   rintro e w' ⟨rfl, rfl⟩
   refine ⟨rfl, ?_, Chg.refl _ _⟩
   rw [srt_nil]
   simp only [List.length_nil, Value.slice.injEq] at hv
   obtain ⟨rfl, _, rfl⟩ := hv
   exact Or.inl ⟨rfl, none, 0, rfl, Nat.zero_le _⟩
 · cases hv
   have hH : Holds encStr w g 0 (ks.map bl).toArray := by
    intro j hj
    have hj' : j < ks.length := by simpa using hj
    refine ⟨?_, frozen_of_heap hh⟩
    have := World.ownsRow.cells h (g := g) rfl j (sk ks[j]) (by simp [hj'])
    rw [Addr.add_lit] at this
    rw [this, getElem!_pos (ks.map bl).toArray j hj]
    simp [sk, encStr]
    exact (lb_bl _).symm
   have hcon := Tryz.slices_Sort_string g 0 cap (ks.map bl) w hH (lt_of_obj hh) (by simpa using hl)
   rw [List.length_map] at hcon
   refine hcon.mono ?_
   rintro e w' ⟨rfl, n, os, rfl⟩
   refine ⟨rfl, ?_, putRow_chg _ _ _ _ _ _⟩
   have hsz : (((ks.map bl).mergeSort fun x y => decide (x ≤ y)).toArray).size = ((ks.map bl).toArray).size := by simp
   have hP := holds_grow encStr _ os g 0 _ (by simp [putRow, mapBlock, ahead]; exact lt_of_obj hh) (holds_putRow encStr _ g 0 _ _ (holds_ahead encStr w n g 0 _ hH) hsz)
   have hlen : (srt ks).length = ks.length := (srt_perm ks).length_eq
   have hb : (srt ks).map bl = (ks.map bl).mergeSort fun x y => decide (x ≤ y) := by
    unfold srt
    rw [List.map_map, show bl ∘ lb = id from funext bl_lb, List.map_id]
   refine Or.inr ⟨g, cap, by rw [hlen], ⟨hge, lt_of_obj hh⟩, ?_, by omega, by omega, by rw [hb]; exact hP⟩
   have := lt_of_obj hh
   simp [grow, putRow, mapBlock, ahead]
   omega
theorem putRow_chg2 (w : World) (blk off n : Nat) (d : Array (List UInt8)) : Chg [blk] w (putRow encStr (Go.Sort.ahead w n) blk off d) := by
 refine ⟨rfl, rfl, rfl, ?_, fun g hg hn => ?_⟩
 · simp [putRow, mapBlock, ahead]
 · show ((w.heap.modify blk (onCells (putCells encStr off d))))[g]? = w.heap[g]?
   simp [Array.getElem?_modify, Ne.symm (by simpa using hn : g ≠ blk)]
theorem compactStrs_any (p : Nat → Prop) (w : World) (v : Value) (l : List ByteArray) (h : StrsU p w v l) :
 Calls Tryz.prog 91 #[v] w fun e w' => ∃ a cap, e = .returned (.slice a (dd l).length cap) ∧ (dd l).length ≤ cap ∧ cap ≤ maxLen ∧ StrsP p w' (.slice a (dd l).length cap) (dd l) ∧ Chg v.ownBlock.toList w w' := by
 rcases h with ⟨rfl, a, cap, rfl, hc⟩ | ⟨g, cap, rfl, hp, hg, h1, h2, h3⟩
 · refine (Tryz.slices_Compact_string_empty a cap w).mono ?_
   rintro e w' ⟨rfl, rfl⟩
   have hd : dd [] = [] := rfl
   rw [hd]
   exact ⟨a, cap, rfl, Nat.zero_le _, hc, ⟨a, cap, rfl, Nat.zero_le _, hc, fun h => absurd h (by simp)⟩, Chg.refl _ _⟩
 · have hcon := Tryz.slices_Compact_string g 0 cap (l.map bl) w h3 (by simp; unfold maxLen at h2; omega) (by simpa using h1)
   rw [List.length_map] at hcon
   refine hcon.mono ?_
   rintro e w' ⟨rfl, q, rfl⟩
   have hdl : (dd l).length = (Lib.compact (l.map bl)).length := by unfold dd; simp
   have hle := compact_len (l.map bl)
   rw [List.length_map] at hle
   have hsz : ((Lib.compact (l.map bl) ++ List.replicate (l.length - (Lib.compact (l.map bl)).length) []).toArray).size = ((l.map bl).toArray).size := by
    simp only [List.size_toArray, List.length_append, List.length_replicate, List.length_map]
    omega
   have hP := holds_putRow encStr _ g 0 _ _ (holds_ahead encStr w q g 0 _ h3) hsz
   refine ⟨some ⟨g, 0, none⟩, cap, by rw [hdl], by omega, h2, holds_strs hp (by omega) h2 (by rw [hsz]; simp; omega) (fun j hj => ?_) hP, putRow_chg2 _ _ _ _ _⟩
   rw [getElem!_pos _ j (by rw [hsz]; simp; omega)]
   simp only [getElem_toArray]
   rw [List.getElem_append_left (by omega)]
   exact (bl_lb _).symm.trans (congrArg bl (List.getElem_map lb).symm)
end Go.Proofs.YtjlknaahpjiibaaGreatDoor
namespace Go.Proofs.YtjlknaahpjiibaaGreatDoor
open Go.RowKit Go.ChangeMaps Go.MapKept Go.Shelf
set_option linter.unusedVariables false
set_option linter.unusedSimpArgs false
theorem isWord_n (n : Int) (w : World) : Calls Tryz.prog 90 #[.int .u8 n] w fun e w' => e = .returned (.bool (decide (n = 95) || (decide ((48 : Int) ≤ n) && decide (n ≤ 57)) || (decide ((97 : Int) ≤ bits .or .u8 n 32) && decide (bits .or .u8 n 32 ≤ 122)))) ∧ w' = w := by
 obtain ⟨r, hr⟩ : ∃ r, r = (decide (n = 95) || (decide ((48 : Int) ≤ n) && decide (n ≤ 57)) || (decide ((97 : Int) ≤ bits .or .u8 n 32) && decide (bits .or .u8 n 32 ≤ 122))) := ⟨_, rfl⟩
 rw [← hr]
 by_cases h1 : n = 95
 · subst h1
   obtain rfl : r = true := by rw [hr]; rfl
   clear hr
   go_enter Tryz.func90, Tryz.ntmps90
   go_wp2_with fail
   go_ret
   exact ⟨rfl, rfl⟩
 have h1b : (n == 95) = false := by simpa using h1
 rw [decide_eq_false h1] at hr
 have H1 := Lib.hid h1b
 clear h1b
 by_cases h2 : 48 ≤ n <;> by_cases h3 : n ≤ 57 <;> by_cases h4 : 97 ≤ bits .or .u8 n 32 <;> by_cases h5 : bits .or .u8 n 32 ≤ 122
 all_goals
  first | rw [decide_eq_true h2] at hr | rw [decide_eq_false h2] at hr
  first | rw [decide_eq_true h3] at hr | rw [decide_eq_false h3] at hr
  first | rw [decide_eq_true h4] at hr | rw [decide_eq_false h4] at hr
  first | rw [decide_eq_true h5] at hr | rw [decide_eq_false h5] at hr
  have Hr := Lib.hid hr
  clear hr
  go_enter Tryz.func90, Tryz.ntmps90
  go_wp2_with fail
  go_ret
  refine ⟨?_, rfl⟩
  rw [Hr.out]
  first | rfl | (simp [H1.out]; done) | (show Ending.returned (.bool _) = _; rw [H1.out]; rfl)
theorem isWord_any (c : UInt8) (w : World) : Calls Tryz.prog 90 #[.int .u8 ((c.toNat : Nat) : Int)] w fun e w' => e = .returned (.bool (isW c)) ∧ w' = w := isWord_n _ w
theorem bl_extract (t : ByteArray) (k m : Nat) : bl (t.extract k m) = ((bl t).drop k).take (m - k) := by
 unfold bl
 rw [ByteArray.data_extract, Array.toList_extract]
theorem words_exit (t : ByteArray) (k m : Nat) (W : List ByteArray) (hR : W.map bl ++ runsA [] ((bl t).drop k) = runsA [] (bl t)) (hkm : k ≤ m) (hmt : m ≤ t.size) (hall : ∀ c ∈ ((bl t).drop k).take (m - k), isW c = true)
 (hstop : m = t.size ∨ ∃ h : m < t.size, isW t[m] = false) :
 (k < m → (W ++ [t.extract k m]).map bl ++ runsA [] ((bl t).drop (m + 1)) = runsA [] (bl t)) ∧ (m = k → W.map bl ++ runsA [] ((bl t).drop (m + 1)) = runsA [] (bl t)) := by
 have hsp : (bl t).drop k = ((bl t).drop k).take (m - k) ++ (bl t).drop m := by
  have := (List.take_append_drop (m - k) ((bl t).drop k)).symm
  rwa [List.drop_drop, show k + (m - k) = m by omega] at this
 have hlen : (((bl t).drop k).take (m - k)).length = m - k := by
  rw [List.length_take, List.length_drop, show (bl t).length = t.size from rfl]
  omega
 have hrun : runsA [] ((bl t).drop k) = (if ((bl t).drop k).take (m - k) = [] then [] else [((bl t).drop k).take (m - k)]) ++ runsA [] ((bl t).drop (m + 1)) := by
  obtain ⟨u, hu⟩ : ∃ u, u = ((bl t).drop k).take (m - k) := ⟨_, rfl⟩
  rw [← hu] at hsp hall ⊢
  rw [hsp, runsA_word _ _ _ hall, List.nil_append]
  rcases hstop with h | ⟨h, hw⟩
  · have e1 : (bl t).drop m = [] := List.drop_eq_nil_of_le (by rw [show (bl t).length = t.size from rfl]; omega)
    have e2 : (bl t).drop (m + 1) = [] := List.drop_eq_nil_of_le (by rw [show (bl t).length = t.size from rfl]; omega)
    rw [e1, e2]
    simp [runsA]
  · have e1 : (bl t).drop m = t[m] :: (bl t).drop (m + 1) := List.drop_eq_getElem_cons h
    rw [e1]
    simp only [runsA, hw, Bool.false_eq_true, if_false]
 constructor
 · intro hlt
   have hne : ((bl t).drop k).take (m - k) ≠ [] := fun e => by rw [e] at hlen; simp at hlen; omega
   rw [← hR, hrun, if_neg hne, List.map_append, List.append_assoc, List.map_cons, List.map_nil, bl_extract]
 · intro he
   have hnil : ((bl t).drop k).take (m - k) = [] := List.eq_nil_of_length_eq_zero (by omega)
   rw [← hR, hrun, if_pos hnil, List.nil_append]
theorem all_more (t : ByteArray) (k m : Nat) (hkm : k ≤ m) (hm : m < t.size) (hall : ∀ c ∈ ((bl t).drop k).take (m - k), isW c = true) (hw : isW t[m] = true) : ∀ c ∈ ((bl t).drop k).take (m + 1 - k), isW c = true := by
 have hlt : m - k < ((bl t).drop k).length := by rw [List.length_drop, show (bl t).length = t.size from rfl]; omega
 rw [show m + 1 - k = (m - k) + 1 by omega, List.take_succ_eq_append_getElem hlt]
 intro c hc
 rcases List.mem_append.1 hc with hc | hc
 · exact hall c hc
 · rw [List.mem_singleton.1 hc, List.getElem_drop]
   have : (bl t)[k + (m - k)]'(by rw [show (bl t).length = t.size from rfl]; omega) = t[m] := by
    have e : k + (m - k) = m := by omega
    simp only [e]
    rfl
   rw [this]; exact hw
theorem wordsR_of {t : ByteArray} {k : Nat} {W : List ByteArray} (hR : W.map bl ++ runsA [] ((bl t).drop k) = runsA [] (bl t)) (hk : t.size ≤ k) : W = wordsR t := by
 have e1 : (bl t).drop k = [] := List.drop_eq_nil_of_le (by rw [show (bl t).length = t.size from rfl]; omega)
 rw [e1] at hR
 unfold wordsR
 rw [← hR]
 simp [runsA, List.map_map, Function.comp_def, lb_bl]
set_option maxRecDepth 100000 in
set_option maxHeartbeats 4000000 in
theorem words_any (w : World) (t : ByteArray) (ht : t.size ≤ 2000) :
 Calls Tryz.prog 52 #[.string t] w fun e w' => ∃ a c, e = .returned (.slice a (words t).length c) ∧ StrsP (fun g => w.heap.size ≤ g ∧ g < w'.heap.size) w' (.slice a (words t).length c) (words t) ∧ Chg [] w w' := by
 go_enter Tryz.func52, Tryz.ntmps52
 go_wp2_with fail
 go_loopw [3, 4] (fun v3 i wr => ∃ (k : Nat) (W : List ByteArray) (a3 : Option Addr) (c3 : Nat), k ≤ t.size + 1 ∧ i = .int .i64 (k : Nat) ∧ v3 = .slice a3 W.length c3 ∧ Hid (OwnS wr w.heap.size v3 W ∧ Chg [] w wr) ∧ Hid (W.map bl ++ runsA [] ((bl t).drop k) = runsA [] (bl t)) ∧ W.length ≤ k) (fun _ i _ => t.size + 1 - (intOf i).toNat)
 case atStart => exact ⟨0, [], none, 0, by omega, rfl, rfl, Lib.hid ⟨OwnS.nil _ _, Chg.refl _ _⟩, Lib.hid (by simp), by simp⟩
 case round =>
  obtain ⟨k, W, a3, c3, hk, rfl, rfl, HO, HR, hWl⟩ := hrel
  by_cases hlt : k < t.size
  · have hk1 : (k : Int) < t.size := by omega
    go_wp2_with fail
    obtain ⟨w0, hw0⟩ : ∃ q, q = wr := ⟨_, rfl⟩
    have HO0 := HO
    rw [← hw0] at HO0
    have HW0 := Lib.hid hw0
    clear hw0
    go_loopw [4] (fun i wx => ∃ m : Nat, k ≤ m ∧ m ≤ t.size ∧ i = .int .i64 (m : Nat) ∧ Hid (wx = w0) ∧ Hid (∀ c ∈ ((bl t).drop k).take (m - k), isW c = true)) (fun i _ => t.size - (intOf i).toNat)
    case atStart => exact ⟨k, by omega, by omega, rfl, Lib.hid HW0.out.symm, Lib.hid (by simp)⟩
    case round =>
     obtain ⟨m, hkm, hmt, rfl, Hwx, Hall⟩ := hrel
     by_cases hm : m < t.size
     · have hm1 : (m : Int) < t.size := by omega
       have hm0 : (0 : Int) ≤ (m : Int) := by omega
       have hwb := isWord_any t[m]
       obtain ⟨b, hb⟩ : ∃ b, isW t[m] = b := ⟨_, rfl⟩
       rw [hb] at hwb
       have Hwb := Lib.hid hwb
       have Hb := Lib.hid hb
       clear hwb hb
       go_wp2_with fail
       refine (Hwb.out _).mono ?_
       rintro e w5 ⟨rfl, rfl⟩
       cases b
       · obtain ⟨X1, X2⟩ := words_exit t k m W HR.out hkm hmt Hall.out (Or.inr ⟨hm, Hb.out⟩)
         have HX := Lib.hid (And.intro X1 X2)
         clear X1 X2
         by_cases hmk : k < m
         · have hgt : (k : Int) < (m : Int) := by omega
           have hms : (m : Int) ≤ t.size := by omega
           have hk00 : (0 : Int) ≤ (k : Int) := by omega
           have hkle : (k : Int) ≤ (m : Int) := by omega
           have ho5 : OwnS w5 w.heap.size (.slice a3 W.length c3) W := by rw [Hwx.out]; exact HO0.out.1
           have hc5 : Chg [] w w5 := by rw [Hwx.out]; exact HO0.out.2
           obtain ⟨x, hx⟩ : ∃ x, x = t.extract k m := ⟨_, rfl⟩
           obtain ⟨w6, hw6⟩ : ∃ q, q = w5.alloc (.cells #[.string (t.extract k m)] 9) := ⟨_, rfl⟩
           obtain ⟨n6, hn6⟩ : ∃ n, n = w5.heap.size := ⟨_, rfl⟩
           have hc6 : Chg [] w5 w6 := by rw [hw6]; exact (Chg.refl [] _).alloc _
           have hb6 : w6.heap[n6]? = some (.cells #[.string (t.extract k m)] 9 (0, 0)) := by rw [hw6, hn6]; exact heap_at _ _ _ rfl
           obtain ⟨v7, w7, hr7, ho7, hc7⟩ := run_append_strs w6 22 w.heap.size _ _ _ W [t.extract k m] (ho5.same hc6) (str1_at hb6) (by simp only [List.length_cons, List.length_nil]; omega) (hc5.trans hc6).size
           obtain ⟨a7, c7, rfl⟩ := ownsRow_shape ho7
           have hOl : (W ++ [t.extract k m]).length = W.length + 1 := by simp
           rw [hOl] at hr7
           have H7 := Lib.hid (show OwnS w7 w.heap.size (.slice a7 (W.length + 1) c7) (W ++ [t.extract k m]) ∧ Chg [] w w7 from ⟨by rw [← hOl]; exact ho7, (hc5.trans hc6).comp hc7 fun g hg => Or.inr ((ho5.same hc6).lt g (by simpa using hg)).1⟩)
           have Hr7 := Lib.hid hr7
           have HW6 := Lib.hid (And.intro hw6 hn6)
           have HOl := Lib.hid hOl
           have hRn := Lib.hid (HX.out.1 hmk)
           clear ho5 hc5 hw6 hn6 hc6 hb6 hr7 ho7 hc7 hx hOl hmk
           go_wp2_with (at_builtin; rw [← HW6.out.1, ← HW6.out.2]; refine wpList_append_run rfl _ _ _ rfl _ _ _ _ rfl rfl Hr7.out ?_)
           refine ⟨⟨m + 1, W ++ [t.extract k m], a7, c7, by omega, by go_num, by rw [HOl.out], H7, hRn, by rw [HOl.out]; omega⟩, by simp [intOf]; omega⟩
         · have hgt : ¬ ((k : Int) < (m : Int)) := by omega
           have hRn := Lib.hid (HX.out.2 (by omega))
           have H5 := Lib.hid (show OwnS w5 w.heap.size (.slice a3 W.length c3) W ∧ Chg [] w w5 by rw [Hwx.out]; exact HO0.out)
           go_wp2_with fail
           exact ⟨⟨m + 1, W, a3, c3, by omega, by go_num, rfl, H5, hRn, by omega⟩, by simp [intOf]; omega⟩
       · go_wp2_with fail
         exact ⟨⟨m + 1, by omega, by omega, by go_num, Hwx, Lib.hid (all_more t k m hkm hm Hall.out Hb.out)⟩, by simp [intOf]; omega⟩
     · obtain ⟨X1, X2⟩ := words_exit t k m W HR.out hkm hmt Hall.out (Or.inl (by omega))
       have HX := Lib.hid (And.intro X1 X2)
       have hm1 : ¬ ((m : Int) < t.size) := by omega
       clear X1 X2
       by_cases hmk : k < m
       · have hgt : (k : Int) < (m : Int) := by omega
         have hms : (m : Int) ≤ t.size := by omega
         have hk00 : (0 : Int) ≤ (k : Int) := by omega
         have hkle : (k : Int) ≤ (m : Int) := by omega
         have ho5 : OwnS wr w.heap.size (.slice a3 W.length c3) W := by rw [Hwx.out]; exact HO0.out.1
         have hc5 : Chg [] w wr := by rw [Hwx.out]; exact HO0.out.2
         obtain ⟨x, hx⟩ : ∃ x, x = t.extract k m := ⟨_, rfl⟩
         obtain ⟨w6, hw6⟩ : ∃ q, q = wr.alloc (.cells #[.string (t.extract k m)] 9) := ⟨_, rfl⟩
         obtain ⟨n6, hn6⟩ : ∃ n, n = wr.heap.size := ⟨_, rfl⟩
         have hc6 : Chg [] wr w6 := by rw [hw6]; exact (Chg.refl [] _).alloc _
         have hb6 : w6.heap[n6]? = some (.cells #[.string (t.extract k m)] 9 (0, 0)) := by rw [hw6, hn6]; exact heap_at _ _ _ rfl
         obtain ⟨v7, w7, hr7, ho7, hc7⟩ := run_append_strs w6 22 w.heap.size _ _ _ W [t.extract k m] (ho5.same hc6) (str1_at hb6) (by simp only [List.length_cons, List.length_nil]; omega) (hc5.trans hc6).size
         obtain ⟨a7, c7, rfl⟩ := ownsRow_shape ho7
         have hOl : (W ++ [t.extract k m]).length = W.length + 1 := by simp
         rw [hOl] at hr7
         have H7 := Lib.hid (show OwnS w7 w.heap.size (.slice a7 (W.length + 1) c7) (W ++ [t.extract k m]) ∧ Chg [] w w7 from ⟨by rw [← hOl]; exact ho7, (hc5.trans hc6).comp hc7 fun g hg => Or.inr ((ho5.same hc6).lt g (by simpa using hg)).1⟩)
         have Hr7 := Lib.hid hr7
         have HW6 := Lib.hid (And.intro hw6 hn6)
         have HOl := Lib.hid hOl
         have hRn := Lib.hid (HX.out.1 hmk)
         clear ho5 hc5 hw6 hn6 hc6 hb6 hr7 ho7 hc7 hx hOl hmk
         go_wp2_with (at_builtin; rw [← HW6.out.1, ← HW6.out.2]; refine wpList_append_run rfl _ _ _ rfl _ _ _ _ rfl rfl Hr7.out ?_)
         refine ⟨⟨m + 1, W ++ [t.extract k m], a7, c7, by omega, by go_num, by rw [HOl.out], H7, hRn, by rw [HOl.out]; omega⟩, by simp [intOf]; omega⟩
       · have hgt : ¬ ((k : Int) < (m : Int)) := by omega
         have hRn := Lib.hid (HX.out.2 (by omega))
         have H5 := Lib.hid (show OwnS wr w.heap.size (.slice a3 W.length c3) W ∧ Chg [] w wr by rw [Hwx.out]; exact HO0.out)
         go_wp2_with fail
         exact ⟨⟨m + 1, W, a3, c3, by omega, by go_num, rfl, H5, hRn, by omega⟩, by simp [intOf]; omega⟩
  · have hk1 : ¬ ((k : Int) < t.size) := by omega
    have hW : W = wordsR t := wordsR_of HR.out (by omega)
    have hso := sortStrsU_any _ W _ wr HO.out.1 (by omega)
    have Hso := Lib.hid hso
    have HW := Lib.hid hW
    clear hso hW
    go_wp2_with fail
    refine Hso.out.mono ?_
    rintro e w1 ⟨rfl, hu, hc1⟩
    have hcm := compactStrs_any _ w1 _ _ hu
    have Hcm := Lib.hid hcm
    have H1 := Lib.hid (HO.out.2.comp hc1 fun g hg => Or.inr (HO.out.1.lt g (by simpa using hg)).1)
    have hsz1 := hc1.size
    clear hcm hu hc1
    go_wp2_with fail
    refine Hcm.out.mono ?_
    rintro e w2 ⟨a2, c2, rfl, h1, h2, hs, hc2⟩
    have hdd : dd (srt W) = wordsD t := by rw [HW.out]; rfl
    rw [hdd] at h1 hs ⊢
    obtain ⟨q, hq⟩ : ∃ q, q = min (wordsD t).length 400 := ⟨_, rfl⟩
    have hqm : min (((wordsD t).length : Nat) : Int) 400 = (q : Int) := by omega
    have hqc : q ≤ c2 := by omega
    have hql : q ≤ (wordsD t).length := by omega
    have hwq : (words t).length = q := by unfold words; rw [List.length_take, hq]; omega
    have hwt : words t = (wordsD t).take q := by
     unfold words
     by_cases h4 : (wordsD t).length ≤ 400
     · rw [List.take_of_length_le h4, List.take_of_length_le (by omega)]
     · rw [show q = 400 by omega]
    have hs2 := hs.take q hql
    rw [← hwt] at hs2
    have hch := H1.out.comp hc2 fun g hg => Or.inr (HO.out.1.lt g (by simpa using hg)).1
    have H2 := Lib.hid (show StrsP (fun g => w.heap.size ≤ g ∧ g < w2.heap.size) w2 (.slice a2 (words t).length c2) (words t) ∧ Chg [] w w2 from ⟨by
     rw [hwq]
     have := hch.size
     have := H1.out.size
     refine hs2.imp fun g hg => ?_
     have := HO.out.2.size
     have := hc2.size
     omega, hch⟩)
    have Hwq := Lib.hid hwq
    unfold maxLen at h2
    clear hdd hq hwq hwt hs hs2 hch hc2
    go_wp2_with fail
    go_ret
    exact ⟨a2, c2, by rw [Hwq.out]; rfl, H2.out.1, H2.out.2⟩
theorem ret_int {k : IntKind} {a b : Int} (h : a = b) : Ending.returned (.int k a) = .returned (.int k b) := by rw [h]
def ckStep (h : Nat) (b : UInt8) : Nat := ((h ^^^ b.toNat) * 16777619) % 4294967296
def ck0 : Nat := 2166136261
theorem ck0_lt : ck0 < 4294967296 := by unfold ck0; decide
def ck (l : List UInt8) : Nat := l.foldl ckStep ck0
theorem ckStep_lt (h : Nat) (b : UInt8) : ckStep h b < 4294967296 := Nat.mod_lt _ (by decide)
theorem ck_fold_lt (l : List UInt8) : ∀ h, h < 4294967296 → l.foldl ckStep h < 4294967296 := by
 induction l with
 | nil => intro h hh; exact hh
 | cons b r ih => intro h _; exact ih _ (ckStep_lt h b)
theorem ck_lt (l : List UInt8) : ck l < 4294967296 := ck_fold_lt l _ ck0_lt
theorem take_fold (s : ByteArray) (k : Nat) (hk : k < s.size) (h0 : Nat) : (s.data.toList.take (k + 1)).foldl ckStep h0 = ckStep ((s.data.toList.take k).foldl ckStep h0) s[k] := by
 have e : s.data.toList[k]'(by simpa using hk) = s[k] := rfl
 rw [List.take_succ_eq_append_getElem (by simpa using hk), List.foldl_append, List.foldl_cons, List.foldl_nil, e]
theorem xor_step (h : Nat) (b : UInt8) (hh : h < 4294967296) : bits .xor .u32 (h : Int) ((b.toNat : Int) % 4294967296) * 16777619 % 4294967296 = (ckStep h b : Int) := by
 have hb : b.toNat < 4294967296 := Nat.lt_trans b.toNat_lt (by decide)
 rw [show ((b.toNat : Int) % 4294967296) = (b.toNat : Int) from Int.emod_eq_of_lt (by omega) (by omega), u32_xor_nat _ _ hh hb]
 unfold ckStep
 omega
set_option maxHeartbeats 400000 in
theorem checksum_any (s : ByteArray) (w : World) (hs : s.size ≤ 9223372036854775807) :
 Calls Tryz.prog 13 #[.string s] w fun e w' => e = .returned (.int .u32 (ck s.data.toList)) ∧ w = w' := by
 go_enter Tryz.func13, Tryz.ntmps13
 go_wp2
 go_loop [3, 7] (fun h i => ∃ (k x : Nat), k ≤ s.size ∧ i = .int .i64 (k : Nat) ∧ h = .int .u32 (x : Nat) ∧ x = (s.data.toList.take k).foldl ckStep ck0) (fun _ i => s.size - (intOf i).toNat)
 case atStart => exact ⟨0, ck0, by omega, rfl, rfl, rfl⟩
 case round =>
  obtain ⟨k, x, hk, rfl, rfl, hx⟩ := hrel
  have hx32 : x < 4294967296 := by rw [hx]; exact ck_fold_lt _ _ ck0_lt
  have Hx := Lib.hid hx
  clear hx
  by_cases hlt : k < s.size
  · go_wp2
    refine ⟨⟨k + 1, ckStep x s[k], by omega, by go_num, ?_, ?_⟩, by simp [intOf]; omega⟩
    · rw [xor_step x s[k] hx32]
    · rw [take_fold s k hlt, Hx.out]
  · go_wp2
    go_ret
    refine ⟨ret_int ?_, rfl⟩
    rw [Hx.out, List.take_of_length_le (by simp; omega)]
    rfl
abbrev Dc := ByteArray × Int × ByteArray
def dc0 : Dc := (⟨#[]⟩, 0, ⟨#[]⟩)
def rdDc (w : World) (ad : Addr) (d : Dc) : Prop := w.cell? ad = some (.string d.1) ∧ w.cell? ⟨ad.block, ad.off + 1, none⟩ = some (.int .i64 d.2.1) ∧ w.cell? ⟨ad.block, ad.off + 2, none⟩ = some (.string d.2.2)
def DcP (p : Nat → Prop) (w : World) (v : Value) (D : List Dc) : Prop := SlR p 3 rdDc w v D
theorem DcP.kept {p : Nat → Prop} {S : Nat → Prop} {w w' : World} {v : Value} {D : List Dc} (h : DcP p w v D) (hc : ChgP S w w') (hS : ∀ k, p k → ¬ S k) : DcP p w' v D :=
 SlR.imp h (fun _ h => h) fun ad x hp hx => by
  have l := lt_of_cell hx.1
  exact ⟨(hc.cell l (hS _ hp)).trans hx.1, (hc.cell (p := ⟨ad.block, ad.off + 1, none⟩) l (hS _ hp)).trans hx.2.1, (hc.cell (p := ⟨ad.block, ad.off + 2, none⟩) l (hS _ hp)).trans hx.2.2⟩
theorem DcP.same {p : Nat → Prop} {w w' : World} {v : Value} {D : List Dc} (h : DcP p w v D) (hc : Chg [] w w') : DcP p w' v D := h.kept (hc.p (S := fun _ => False)) fun _ _ h => h
theorem DcP.cells {p : Nat → Prop} {w : World} {a : Option Addr} {n cap : Nat} {D : List Dc} (h : DcP p w (.slice a n cap) D) (i : Nat) (hi : i < D.length) :
 ∃ g off, a = some ⟨g, off, none⟩ ∧ p g ∧ w.cell? ⟨g, off + i * 3, none⟩ = some (.string (D.getD i dc0).1) ∧ w.cell? ⟨g, off + i * 3 + 1, none⟩ = some (.int .i64 (D.getD i dc0).2.1) ∧ w.cell? ⟨g, off + i * 3 + 2, none⟩ = some (.string (D.getD i dc0).2.2) := by
 obtain ⟨g, off, rfl, hp, h1, h2, h3⟩ := SlR.at h i hi dc0
 exact ⟨g, off, rfl, hp, h1, h2, h3⟩
theorem DcP.take {p : Nat → Prop} {w : World} {a : Option Addr} {n cap : Nat} {E : List Dc} (h : DcP p w (.slice a n cap) E) (k : Nat) (hk : k ≤ E.length) : DcP p w (.slice a k cap) (E.take k) := by
 obtain ⟨a', cap', hv, h1, h2, h3⟩ := h
 simp only [Value.slice.injEq] at hv
 obtain ⟨rfl, rfl, rfl⟩ := hv
 have hl : (E.take k).length = k := by simp; omega
 refine ⟨a, cap, by rw [hl], by omega, h2, fun h0 => ?_⟩
 obtain ⟨g, off, rfl, hp, hc⟩ := h3 (by omega)
 refine ⟨g, off, rfl, hp, fun j hj => ?_⟩
 rw [List.getElem_take]
 exact hc j (by omega)
structure DcOk (D : List Dc) : Prop where
 len : D.length ≤ 20
 ok : ∀ d ∈ D, 0 < d.1.size ∧ d.1.size ≤ 60 ∧ d.2.2.size ≤ 2000
 nd : (D.map (·.1)).Nodup
set_option maxHeartbeats 1000000 in
theorem vd1_idx (p : Nat → Prop) (w : World) (v : Value) (D : List Dc) (hk : DcP p w v D)
 (hf : ∀ W, Chg [] w W → ∀ a b c, (a, b, c) ∈ D → Calls Tryz.prog 48 #[.agg #[.string a, .int .i64 b, .string c]] W fun e w' => e = .returned (.bool false) ∧ Chg [] W w') :
 Calls Tryz.prog 89 #[v, .func (.func 48) #[] #[]] w fun e w' => e = .returned (.int .i64 (-1)) ∧ Chg [] w w' := by
 obtain ⟨a, cap, rfl, hm, hc⟩ := SlR.shape hk
 have Hk := Lib.hid hk
 have Hf := Lib.hid hf
 clear hk hf
 unfold maxLen at hm
 go_enter Tryz.func89, Tryz.ntmps89
 go_wp2_with fail
 go_loopw [8] (fun i wr => ∃ n : Nat, n ≤ D.length ∧ i = .int .i64 (n : Nat) ∧ Hid (Chg [] w wr)) (fun i _ => D.length - (intOf i).toNat)
 case atStart => exact ⟨0, by omega, rfl, Lib.hid (Chg.refl _ _)⟩
 case round =>
  obtain ⟨n, hn, rfl, Hcw⟩ := hrel
  by_cases hlt : n < D.length
  · obtain ⟨g, off, rfl, _, q0, q1, q2⟩ := (DcP.same Hk.out Hcw.out).cells n hlt
    obtain ⟨x, hx⟩ : ∃ x, D.getD n dc0 = x := ⟨_, rfl⟩
    have hxm : x ∈ D := by rw [← hx]; exact getD_memb hlt _
    rw [hx] at q0 q1 q2
    obtain ⟨x1, x2, x3⟩ := x
    simp only at q0 q1 q2
    have lg := lt_of_cell q0
    have hn1 : (n : Int) < D.length := by omega
    have hn0 : (0 : Int) ≤ (n : Int) := by omega
    have Hcall := Lib.hid (Hf.out wr Hcw.out x1 x2 x3 hxm)
    clear hx hxm
    go_wp2_with fail
    refine Hcall.out.mono ?_
    rintro e w1 ⟨rfl, hc1⟩
    have H1 := Lib.hid (Hcw.out.trans hc1)
    clear hc1 q0 q1 q2 lg
    go_wp2_with fail
    exact ⟨⟨n + 1, by omega, by go_num, H1⟩, by simp [intOf]; omega⟩
  · have hn1 : ¬ ((n : Int) < D.length) := by omega
    go_wp2_with fail
    go_ret
    exact ⟨rfl, Hcw.out⟩
theorem vd1_cf (p : Nat → Prop) (w : World) (v : Value) (D : List Dc) (hk : DcP p w v D)
 (hf : ∀ W, Chg [] w W → ∀ a b c, (a, b, c) ∈ D → Calls Tryz.prog 48 #[.agg #[.string a, .int .i64 b, .string c]] W fun e w' => e = .returned (.bool false) ∧ Chg [] W w') :
 Calls Tryz.prog 49 #[v, .func (.func 48) #[] #[]] w fun e w' => e = .returned (.bool false) ∧ Chg [] w w' := by
 have Hi := Lib.hid (vd1_idx p w v D hk hf)
 clear hk hf
 go_enter Tryz.func49, Tryz.ntmps49
 go_wp2_with fail
 refine Hi.out.mono ?_
 rintro e w1 ⟨rfl, hc1⟩
 have H1 := Lib.hid hc1
 clear hc1
 go_wp2_with fail
 go_ret
 exact ⟨rfl, H1.out⟩
set_option maxHeartbeats 1000000 in
theorem vd2_idx (p : Nat → Prop) (w : World) (v : Value) (D : List Dc) (hk : DcP p w v D)
 (hf : ∀ W, Chg [] w W → ∀ a b c, (a, b, c) ∈ D → Calls Tryz.prog 50 #[.agg #[.string a, .int .i64 b, .string c]] W fun e w' => e = .returned (.bool false) ∧ Chg [] W w') :
 Calls Tryz.prog 89 #[v, .func (.func 50) #[] #[]] w fun e w' => e = .returned (.int .i64 (-1)) ∧ Chg [] w w' := by
 obtain ⟨a, cap, rfl, hm, hc⟩ := SlR.shape hk
 have Hk := Lib.hid hk
 have Hf := Lib.hid hf
 clear hk hf
 unfold maxLen at hm
 go_enter Tryz.func89, Tryz.ntmps89
 go_wp2_with fail
 go_loopw [8] (fun i wr => ∃ n : Nat, n ≤ D.length ∧ i = .int .i64 (n : Nat) ∧ Hid (Chg [] w wr)) (fun i _ => D.length - (intOf i).toNat)
 case atStart => exact ⟨0, by omega, rfl, Lib.hid (Chg.refl _ _)⟩
 case round =>
  obtain ⟨n, hn, rfl, Hcw⟩ := hrel
  by_cases hlt : n < D.length
  · obtain ⟨g, off, rfl, _, q0, q1, q2⟩ := (DcP.same Hk.out Hcw.out).cells n hlt
    obtain ⟨x, hx⟩ : ∃ x, D.getD n dc0 = x := ⟨_, rfl⟩
    have hxm : x ∈ D := by rw [← hx]; exact getD_memb hlt _
    rw [hx] at q0 q1 q2
    obtain ⟨x1, x2, x3⟩ := x
    simp only at q0 q1 q2
    have lg := lt_of_cell q0
    have hn1 : (n : Int) < D.length := by omega
    have hn0 : (0 : Int) ≤ (n : Int) := by omega
    have Hcall := Lib.hid (Hf.out wr Hcw.out x1 x2 x3 hxm)
    clear hx hxm
    go_wp2_with fail
    refine Hcall.out.mono ?_
    rintro e w1 ⟨rfl, hc1⟩
    have H1 := Lib.hid (Hcw.out.trans hc1)
    clear hc1 q0 q1 q2 lg
    go_wp2_with fail
    exact ⟨⟨n + 1, by omega, by go_num, H1⟩, by simp [intOf]; omega⟩
  · have hn1 : ¬ ((n : Int) < D.length) := by omega
    go_wp2_with fail
    go_ret
    exact ⟨rfl, Hcw.out⟩
theorem vd2_cf (p : Nat → Prop) (w : World) (v : Value) (D : List Dc) (hk : DcP p w v D)
 (hf : ∀ W, Chg [] w W → ∀ a b c, (a, b, c) ∈ D → Calls Tryz.prog 50 #[.agg #[.string a, .int .i64 b, .string c]] W fun e w' => e = .returned (.bool false) ∧ Chg [] W w') :
 Calls Tryz.prog 49 #[v, .func (.func 50) #[] #[]] w fun e w' => e = .returned (.bool false) ∧ Chg [] w w' := by
 have Hi := Lib.hid (vd2_idx p w v D hk hf)
 clear hk hf
 go_enter Tryz.func49, Tryz.ntmps49
 go_wp2_with fail
 refine Hi.out.mono ?_
 rintro e w1 ⟨rfl, hc1⟩
 have H1 := Lib.hid hc1
 clear hc1
 go_wp2_with fail
 go_ret
 exact ⟨rfl, H1.out⟩
set_option maxHeartbeats 1000000 in
theorem vd3_idx (p : Nat → Prop) (w : World) (v : Value) (D : List Dc) (n5 : Nat) (hk : DcP p w v D)
 (hf : ∀ W, Chg [] w W → ∀ a b c, (a, b, c) ∈ D → Calls Tryz.prog 51 #[.agg #[.string a, .int .i64 b, .string c], .pointer (some ⟨n5, 0, none⟩)] W fun e w' => e = .returned (.bool false) ∧ Chg [] W w') :
 Calls Tryz.prog 89 #[v, .func (.func 51) #[] #[.pointer (some ⟨n5, 0, none⟩)]] w fun e w' => e = .returned (.int .i64 (-1)) ∧ Chg [] w w' := by
 obtain ⟨a, cap, rfl, hm, hc⟩ := SlR.shape hk
 have Hk := Lib.hid hk
 have Hf := Lib.hid hf
 clear hk hf
 unfold maxLen at hm
 go_enter Tryz.func89, Tryz.ntmps89
 go_wp2_with fail
 go_loopw [8] (fun i wr => ∃ n : Nat, n ≤ D.length ∧ i = .int .i64 (n : Nat) ∧ Hid (Chg [] w wr)) (fun i _ => D.length - (intOf i).toNat)
 case atStart => exact ⟨0, by omega, rfl, Lib.hid (Chg.refl _ _)⟩
 case round =>
  obtain ⟨n, hn, rfl, Hcw⟩ := hrel
  by_cases hlt : n < D.length
  · obtain ⟨g, off, rfl, _, q0, q1, q2⟩ := (DcP.same Hk.out Hcw.out).cells n hlt
    obtain ⟨x, hx⟩ : ∃ x, D.getD n dc0 = x := ⟨_, rfl⟩
    have hxm : x ∈ D := by rw [← hx]; exact getD_memb hlt _
    rw [hx] at q0 q1 q2
    obtain ⟨x1, x2, x3⟩ := x
    simp only at q0 q1 q2
    have lg := lt_of_cell q0
    have hn1 : (n : Int) < D.length := by omega
    have hn0 : (0 : Int) ≤ (n : Int) := by omega
    have Hcall := Lib.hid (Hf.out wr Hcw.out x1 x2 x3 hxm)
    clear hx hxm
    go_wp2_with fail
    refine Hcall.out.mono ?_
    rintro e w1 ⟨rfl, hc1⟩
    have H1 := Lib.hid (Hcw.out.trans hc1)
    clear hc1 q0 q1 q2 lg
    go_wp2_with fail
    exact ⟨⟨n + 1, by omega, by go_num, H1⟩, by simp [intOf]; omega⟩
  · have hn1 : ¬ ((n : Int) < D.length) := by omega
    go_wp2_with fail
    go_ret
    exact ⟨rfl, Hcw.out⟩
theorem vd3_cf (p : Nat → Prop) (w : World) (v : Value) (D : List Dc) (n5 : Nat) (hk : DcP p w v D)
 (hf : ∀ W, Chg [] w W → ∀ a b c, (a, b, c) ∈ D → Calls Tryz.prog 51 #[.agg #[.string a, .int .i64 b, .string c], .pointer (some ⟨n5, 0, none⟩)] W fun e w' => e = .returned (.bool false) ∧ Chg [] W w') :
 Calls Tryz.prog 49 #[v, .func (.func 51) #[] #[.pointer (some ⟨n5, 0, none⟩)]] w fun e w' => e = .returned (.bool false) ∧ Chg [] w w' := by
 have Hi := Lib.hid (vd3_idx p w v D n5 hk hf)
 clear hk hf
 go_enter Tryz.func49, Tryz.ntmps49
 go_wp2_with fail
 refine Hi.out.mono ?_
 rintro e w1 ⟨rfl, hc1⟩
 have H1 := Lib.hid hc1
 clear hc1
 go_wp2_with fail
 go_ret
 exact ⟨rfl, H1.out⟩
theorem vd1_any (a : ByteArray) (b : Int) (c : ByteArray) (w : World) (ha : a.size ≤ 60) (hc : c.size ≤ 2000) : Calls Tryz.prog 48 #[.agg #[.string a, .int .i64 b, .string c]] w fun e w' => e = .returned (.bool false) ∧ Chg [] w w' := by
 have h1 : ¬ ((60 : Int) < a.size) := by omega
 have h2 : ¬ ((2000 : Int) < c.size) := by omega
 go_enter Tryz.func48, Tryz.ntmps48
 go_wp2_with fail
 go_ret
 exact ⟨rfl, (Chg.refl [] w).alloc _⟩
theorem vd2_any (a : ByteArray) (b : Int) (c : ByteArray) (w : World) (ha : 0 < a.size) : Calls Tryz.prog 50 #[.agg #[.string a, .int .i64 b, .string c]] w fun e w' => e = .returned (.bool false) ∧ Chg [] w w' := by
 have h2 : (a.toList == []) = false := by
  rw [beq_eq_false_iff_ne, ByteArray.toList_eq]
  intro e
  have : a.data.toList.length = 0 := by rw [e]; rfl
  have h3 : a.data.toList.length = a.size := rfl
  omega
 go_enter Tryz.func50, Tryz.ntmps50
 go_wp2_with fail
 go_ret
 exact ⟨by first | rfl | simp [h2], (Chg.refl [] w).alloc _⟩
theorem beqS (a b : ByteArray) : (a.toList == b.toList) = decide (a = b) := by
 rw [ByteArray.toList_eq, ByteArray.toList_eq, Bool.eq_iff_iff, beq_iff_eq, decide_eq_true_iff]
 exact ⟨fun h => bl_inj h, fun h => by rw [h]⟩
theorem vd3_any (a : ByteArray) (b : Int) (c : ByteArray) (w : World) (n5 : Nat) (a' : ByteArray) (b' : Int) (c' : ByteArray) (h5 : w.heap[n5]? = some (.cells #[.string a', .int .i64 b', .string c'] 28 (0, 0))) (hne : a ≠ a') :
 Calls Tryz.prog 51 #[.agg #[.string a, .int .i64 b, .string c], .pointer (some ⟨n5, 0, none⟩)] w fun e w' => e = .returned (.bool false) ∧ Chg [] w w' := by
 obtain ⟨w1, hw1⟩ : ∃ q, q = w.alloc (.cells #[.string a, .int .i64 b, .string c] 28) := ⟨_, rfl⟩
 have hc1 : Chg [] w w1 := by rw [hw1]; exact (Chg.refl [] w).alloc _
 have p0 : w1.cell? ⟨n5, 0, none⟩ = some (.string a') := cell_of_heap ((hc1.block _ (lt_of_obj h5) (by simp)).trans h5) rfl
 have b0 : w1.cell? ⟨w.heap.size, 0, none⟩ = some (.string a) := by rw [hw1]; exact cell_of_heap (heap_at _ _ _ rfl) rfl
 have l0 := lt_of_cell p0
 have h2 : (a.toList == a'.toList) = false := by rw [beqS]; exact decide_eq_false hne
 have Hw1 := Lib.hid hw1
 have Hc1 := Lib.hid hc1
 clear h5 hw1 hc1 hne
 go_enter Tryz.func51, Tryz.ntmps51
 go_upto_region 1 with (fail)
 rw [← Hw1.out]
 go_wp2_with fail
 go_ret
 exact ⟨by first | rfl | simp [h2], Hc1.out⟩
set_option maxRecDepth 100000 in
set_option maxHeartbeats 4000000 in
theorem validDocs_any (p : Nat → Prop) (w : World) (v : Value) (D : List Dc) (h : DcP p w v D) (hok : DcOk D) :
 Calls Tryz.prog 23 #[v] w fun e w' => e = .returned (.int .i64 0) ∧ Chg [] w w' := by
 obtain ⟨a, cap, rfl, hml, hcp⟩ := SlR.shape h
 have h20 : ¬ ((20 : Int) < D.length) := by have := hok.len; omega
 have H := Lib.hid h
 have Hok := Lib.hid hok
 unfold maxLen at hml
 clear h hok
 go_enter Tryz.func23, Tryz.ntmps23
 go_wp2_with fail
 refine (vd1_cf p w _ D H.out (fun W _ a b c hm => vd1_any a b c W (Hok.out.ok _ hm).2.1 (Hok.out.ok _ hm).2.2)).mono ?_
 rintro e w1 ⟨rfl, hc1⟩
 have H1 := Lib.hid hc1
 clear hc1
 go_wp2_with fail
 refine (vd2_cf p w1 _ D (H.out.same H1.out) (fun W _ a b c hm => vd2_any a b c W (Hok.out.ok _ hm).1)).mono ?_
 rintro e w2 ⟨rfl, hc2⟩
 have H2 := Lib.hid (H1.out.trans hc2)
 clear hc2
 go_wp2_with fail
 go_loopw [18] (fun i wr => ∃ n : Nat, n ≤ D.length ∧ i = .int .i64 (n : Nat) ∧ Hid (Chg [] w wr)) (fun i _ => D.length - (intOf i).toNat)
 case atStart => exact ⟨0, by omega, rfl, H2⟩
 case round =>
  obtain ⟨n, hn, rfl, Hcw⟩ := hrel
  by_cases hlt : n < D.length
  · obtain ⟨g, off, rfl, _, q0, q1, q2⟩ := (H.out.same Hcw.out).cells n hlt
    obtain ⟨x, hx⟩ : ∃ x, D.getD n dc0 = x := ⟨_, rfl⟩
    have hpre : ∀ y ∈ D.take n, y.1 ≠ x.1 := by
     intro y hy e
     have hg : D[n] = x := by rw [← hx, List.getD_eq_getElem?_getD, List.getElem?_eq_getElem hlt]; rfl
     have hnd : ((D.take (n + 1)).map (·.1)).Nodup := Hok.out.nd.sublist ((List.take_sublist _ _).map _)
     rw [List.take_succ_eq_append_getElem hlt, List.map_append, List.nodup_append, hg] at hnd
     exact hnd.2.2 y.1 (List.mem_map.2 ⟨y, hy, rfl⟩) x.1 (by simp) e
    rw [hx] at q0 q1 q2
    obtain ⟨x1, x2, x3⟩ := x
    simp only at q0 q1 q2 hpre
    have lg := lt_of_cell q0
    have hn1 : (n : Int) < D.length := by omega
    have hn0 : (0 : Int) ≤ (n : Int) := by omega
    have hnc : (n : Int) ≤ cap := by omega
    obtain ⟨w5, hw5⟩ : ∃ q, q = wr.alloc (.cells #[.string x1, .int .i64 x2, .string x3] 28) := ⟨_, rfl⟩
    obtain ⟨n5, hn5⟩ : ∃ n, n = wr.heap.size := ⟨_, rfl⟩
    have hc5 : Chg [] wr w5 := by rw [hw5]; exact (Chg.refl [] wr).alloc _
    have hb5 : w5.heap[n5]? = some (.cells #[.string x1, .int .i64 x2, .string x3] 28 (0, 0)) := by rw [hw5, hn5]; exact heap_at _ _ _ rfl
    have Hcf := Lib.hid (vd3_cf p w5 _ (D.take n) n5 ((H.out.same (Hcw.out.trans hc5)).take n (by omega)) (fun W hW a b c hm => vd3_any a b c W n5 x1 x2 x3 ((hW.block _ (lt_of_obj hb5) (by simp)).trans hb5) (hpre _ hm)))
    have HW5 := Lib.hid (And.intro hw5 hn5)
    have H5 := Lib.hid (Hcw.out.trans hc5)
    clear hx hpre hw5 hn5 hc5 hb5
    go_wp2_with (rw [← HW5.out.1, ← HW5.out.2]; refine Hcf.out.mono ?_; rintro e w6 ⟨rfl, hc6⟩)
    exact ⟨⟨n + 1, by omega, by go_num, Lib.hid (H5.out.trans hc6)⟩, by simp [intOf]; omega⟩
  · have hn1 : ¬ ((n : Int) < D.length) := by omega
    go_wp2_with fail
    go_ret
    exact ⟨rfl, Hcw.out⟩
theorem cell_set_ne {w : World} {a b : Addr} {u : Value} (h : a.block ≠ b.block) : (w.setCell b u).cell? a = w.cell? a := World.cell?_of_block (heap_setCell_ne _ _ _ _ h)
theorem set3 {w6 : World} {n1 n2 : Nat} {u0 u1 u2 : Value} {a b : Option Value} (hne : n1 ≠ n2) (z0 : w6.cell? ⟨n1, 0, none⟩ = a) (z2 : w6.cell? ⟨n1, 2, none⟩ = b) :
 (((w6.setCell ⟨n2, 0, none⟩ u0).setCell ⟨n2, 1, none⟩ u1).setCell ⟨n2, 2, none⟩ u2).cell? ⟨n1, 0, none⟩ = a ∧ (((w6.setCell ⟨n2, 0, none⟩ u0).setCell ⟨n2, 1, none⟩ u1).setCell ⟨n2, 2, none⟩ u2).cell? ⟨n1, 2, none⟩ = b :=
 ⟨(cell_set_ne hne).trans ((cell_set_ne hne).trans ((cell_set_ne hne).trans z0)), (cell_set_ne hne).trans ((cell_set_ne hne).trans ((cell_set_ne hne).trans z2))⟩
set_option maxRecDepth 100000 in
set_option maxHeartbeats 4000000 in
theorem newEntry_any (nm : ByteArray) (ver : Int) (tx : ByteArray) (w : World) (ht : tx.size ≤ 2000) :
 Calls Tryz.prog 24 #[.agg #[.string nm, .int .i64 ver, .string tx]] w fun e w' => ∃ a c, e = .returned (.agg #[.string nm, .int .u32 (ck tx.data.toList), .slice a (words tx).length c]) ∧ StrsP (fun g => w.heap.size ≤ g ∧ g < w'.heap.size) w' (.slice a (words tx).length c) (words tx) ∧ Chg [] w w' := by
 have Hck := Lib.hid (fun W => checksum_any tx W (by omega))
 have Hwd := Lib.hid (fun W => words_any W tx ht)
 obtain ⟨kk, hkk⟩ : ∃ k, k = ((ck tx.data.toList : Nat) : Int) := ⟨_, rfl⟩
 rw [← hkk] at Hck ⊢
 clear hkk
 obtain ⟨w1, hw1⟩ : ∃ q, q = (w.alloc (.cells #[.string nm, .int .i64 ver, .string tx] 28)).alloc (.cells #[.string ⟨#[]⟩, .int .u32 0, .slice none 0 0] 70) := ⟨_, rfl⟩
 obtain ⟨n1, hn1⟩ : ∃ n, n = w.heap.size := ⟨_, rfl⟩
 obtain ⟨n2, hn2⟩ : ∃ n, n = w.heap.size + 1 := ⟨_, rfl⟩
 have hc1 : Chg [] w w1 := by rw [hw1]; exact ((Chg.refl [] w).alloc _).alloc _
 have hb1 : w1.heap[n1]? = some (.cells #[.string nm, .int .i64 ver, .string tx] 28 (0, 0)) := by rw [hw1, hn1]; exact (heap_past _ _ _ (by simp)).trans (heap_at _ _ _ rfl)
 have hb2 : w1.heap[n2]? = some (.cells #[.string ⟨#[]⟩, .int .u32 0, .slice none 0 0] 70 (0, 0)) := by rw [hw1, hn2]; exact heap_at _ _ _ (by simp)
 have x0 : w1.cell? ⟨n1, 0, none⟩ = some (.string nm) := cell_of_heap hb1 rfl
 have x1 : w1.cell? ⟨n1, 1, none⟩ = some (.int .i64 ver) := cell_of_heap hb1 rfl
 have x2 : w1.cell? ⟨n1, 2, none⟩ = some (.string tx) := cell_of_heap hb1 rfl
 have y0 : w1.cell? ⟨n2, 0, none⟩ = some (.string ⟨#[]⟩) := cell_of_heap hb2 rfl
 have y1 : w1.cell? ⟨n2, 1, none⟩ = some (.int .u32 0) := cell_of_heap hb2 rfl
 have y2 : w1.cell? ⟨n2, 2, none⟩ = some (.slice none 0 0) := cell_of_heap hb2 rfl
 have f2 : ∀ i, w1.frozen? ⟨n2, i, none⟩ = false := fun i => frozen_of_heap hb2
 have lx := lt_of_cell x0
 have ly := lt_of_cell y0
 have hne : n1 ≠ n2 := by omega
 have hge : w.heap.size ≤ n2 := by omega
 have HW := Lib.hid (And.intro hw1 (And.intro hn1 hn2))
 have H1 := Lib.hid (And.intro hc1 (And.intro hb1 hb2))
 clear hw1 hn1 hn2 hc1 hb1 hb2
 go_enter Tryz.func24, Tryz.ntmps24
 go_upto_region 1 with (fail)
 rw [← HW.out.1, ← HW.out.2.2, ← HW.out.2.1]
 go_region_held3 (fun W => W.cell? ⟨n1, 0, none⟩ = some (.string nm) ∧ W.cell? ⟨n1, 2, none⟩ = some (.string tx))
  (first | (go_keep; done) | (exact ⟨z0, z2⟩) | (exact set3 hne z0 z2))
  (first
   | (go_at_call 13; (with_reducible refine (Hck.out _).mono ?_); rintro e w4 ⟨rfl, rfl⟩)
   | (go_at_call 52; (with_reducible refine (Hwd.out _).mono ?_); rintro e w6 ⟨a6, c6, rfl, hs, hc⟩; have hc6 : Chg [] w1 w6 := (Chg.refl [] w1).drew.trans hc; have e1 := (hc6.block _ (lt_of_obj H1.out.2.1) (by simp)).trans H1.out.2.1; have e2 := (hc6.block _ (lt_of_obj H1.out.2.2) (by simp)).trans H1.out.2.2; have z0 : w6.cell? ⟨n1, 0, none⟩ = some (.string nm) := cell_of_heap e1 rfl; have z2 : w6.cell? ⟨n1, 2, none⟩ = some (.string tx) := cell_of_heap e1 rfl; have u0 : w6.cell? ⟨n2, 0, none⟩ = some (.string ⟨#[]⟩) := cell_of_heap e2 rfl; have u1 : w6.cell? ⟨n2, 1, none⟩ = some (.int .u32 0) := cell_of_heap e2 rfl; have u2 : w6.cell? ⟨n2, 2, none⟩ = some (.slice none 0 0) := cell_of_heap e2 rfl; have v0 : w6.frozen? ⟨n2, 0, none⟩ = false := frozen_of_heap e2; have v1 : w6.frozen? ⟨n2, 1, none⟩ = false := frozen_of_heap e2; have v2 : w6.frozen? ⟨n2, 2, none⟩ = false := frozen_of_heap e2; have l6 := lt_of_cell u0; have H6 := Lib.hid (And.intro hs (And.intro hc6 e2)); clear hs hc hc6 e1 e2))
 all_goals
  go_wp2_with fail
  obtain ⟨hs, hc6, e2⟩ := H6.out
  obtain ⟨w9, hw9⟩ : ∃ q, q = ((w6.setCell ⟨n2, 0, none⟩ (.string nm)).setCell ⟨n2, 1, none⟩ (.int .u32 kk)).setCell ⟨n2, 2, none⟩ (.slice a6 (words tx).length c6) := ⟨_, rfl⟩
  have hb9 : w9.heap[n2]? = some (.cells #[.string nm, .int .u32 kk, .slice a6 (words tx).length c6] 70 (0, 0)) := by
   rw [hw9]
   exact heap_setCell_same (heap_setCell_same (heap_setCell_same e2 _) _) _
  have hc9 : Chg [n2] w6 w9 := by
   rw [hw9]
   exact (((Chg.refl [n2] w6).setCell (p := ⟨n2, 0, none⟩) (Or.inl (by simp)) _).setCell (p := ⟨n2, 1, none⟩) (Or.inl (by simp)) _).setCell (p := ⟨n2, 2, none⟩) (Or.inl (by simp)) _
  rw [← hw9]
  have r0 : w9.cell? ⟨n2, 0, none⟩ = some (.string nm) := cell_of_heap hb9 rfl
  have r1 : w9.cell? ⟨n2, 1, none⟩ = some (.int .u32 kk) := cell_of_heap hb9 rfl
  have r2 : w9.cell? ⟨n2, 2, none⟩ = some (.slice a6 (words tx).length c6) := cell_of_heap hb9 rfl
  refine bodyPost_ret (v := .agg #[.string nm, .int .u32 kk, .slice a6 (words tx).length c6]) (by simp [results, Tryz.results24, go_sem, r0, r1, r2]) rfl ⟨a6, c6, rfl, ?_, ?_⟩
  · have l2 := lt_of_obj H1.out.2.2
    have h1 : ∀ g, w1.heap.size ≤ g ∧ g < w6.heap.size → ¬ (g ∈ [n2]) := fun g hg hm => by
     have := List.mem_singleton.1 hm
     omega
    refine (StrsP.kept hs hc9.toP h1).imp fun g hg => ?_
    have := H1.out.1.size
    have := hc9.size
    have hg' : w1.heap.size ≤ g ∧ g < w6.heap.size := hg
    omega
  · exact (H1.out.1.trans hc6).comp hc9 fun g hg => Or.inr (by rw [List.mem_singleton.1 hg]; exact hge)
end Go.Proofs.YtjlknaahpjiibaaGreatDoor
