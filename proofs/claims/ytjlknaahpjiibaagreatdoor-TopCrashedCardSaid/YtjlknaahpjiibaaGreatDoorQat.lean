/- Part of the proof of topCrashedLaw_holds. -/
import Derived.Test.YtjlknaahpjiibaaGreatDoorQaa
import Derived.Test.YtjlknaahpjiibaaGreatDoorQad
import Derived.Test.YtjlknaahpjiibaaGreatDoorQas
namespace Go.Proofs.YtjlknaahpjiibaaGreatDoor.F
open Go.RowKit Go.ChangeMaps Go.MapKept Go.Shelf Go.Sort
set_option linter.unusedVariables false
set_option linter.unusedSimpArgs false
def rdStr (w : World) (ad : Addr) (x : ByteArray) : Prop := w.cell? ad = some (.string x)
def StrsP (p : Nat → Prop) (w : World) (v : Value) (xs : List ByteArray) : Prop := SlR p 1 rdStr w v xs
theorem putRow_chg (w : World) (blk off n : Nat) (d : Array (List UInt8)) (os : Array Obj) : Chg [blk] w (grow (putRow encStr (Go.Sort.ahead w n) blk off d) os) := by
 refine ⟨rfl, rfl, rfl, ?_, fun g hg hn => ?_⟩
 · simp [grow, putRow, mapBlock, ahead]
 · show (((w.heap.modify blk (onCells (putCells encStr off d)))) ++ os)[g]? = w.heap[g]?
   rw [Array.getElem?_append_left (by simpa using hg)]
   simp [Array.getElem?_modify, Ne.symm (by simpa using hn : g ≠ blk)]
theorem srt_nil : srt [] = [] := List.length_eq_zero_iff.1 (srt_perm []).length_eq
theorem sortStrs_any (v : Value) (ks : List ByteArray) (base : Nat) (w : World) (h : w.ownsRow base 9 1 v ks.length (ks.map sk)) (hl : ks.length < 4611686018427387904) :
 Calls Tryz.prog 38 #[v] w fun e w' => e = .returned (.tuple #[]) ∧ StrsP (fun g => base ≤ g ∧ g < w.heap.size) w' v (srt ks) ∧ Chg v.ownBlock.toList w w' := by
 obtain ⟨a, cap, rfl⟩ := ownsRow_shape h
 rcases h.2 with ⟨hv, hx⟩ | ⟨g, cap', cur', hv, hge, hh, h3, h4, h5, h6⟩
 · have hk : ks = [] := List.eq_nil_of_length_eq_zero hx
   subst hk
   refine (Tryz.slices_Sort_string_none a cap w).mono ?_
   rintro e w' ⟨rfl, rfl⟩
   refine ⟨rfl, ?_, Chg.refl _ _⟩
   rw [srt_nil]
   simp only [List.length_nil, Value.slice.injEq] at hv
   obtain ⟨rfl, _, rfl⟩ := hv
   exact SlR.nil _ _ _ _
 · cases hv
   have hH : Holds encStr w g 0 (ks.map bl).toArray := by
    intro j hj
    have hj' : j < ks.length := by simpa using hj
    refine ⟨?_, frozen_of_heap hh⟩
    have := World.ownsRow.cells h (g := g) rfl j (sk ks[j]) (by simp [hj'])
    rw [Addr.add_lit] at this
    rw [this, getElem!_pos (ks.map bl).toArray j hj]
    simp [sk, encStr]
    exact (lb_bl _).symm
   have hcon := Tryz.slices_Sort_string g 0 cap (ks.map bl) w hH (lt_of_obj hh) (by simpa using hl)
   rw [List.length_map] at hcon
   refine hcon.mono ?_
   rintro e w' ⟨rfl, n, os, rfl⟩
   refine ⟨rfl, ?_, putRow_chg _ _ _ _ _ _⟩
   have hsz : (((ks.map bl).mergeSort fun x y => decide (x ≤ y)).toArray).size = ((ks.map bl).toArray).size := by simp
   have hP := holds_grow encStr _ os g 0 _ (by simp [putRow, mapBlock, ahead]; exact lt_of_obj hh) (holds_putRow encStr _ g 0 _ _ (holds_ahead encStr w n g 0 _ hH) hsz)
   have hlen : (srt ks).length = ks.length := (srt_perm ks).length_eq
   refine ⟨some ⟨g, 0, none⟩, cap, by rw [hlen], by omega, by omega, fun _ => ⟨g, 0, rfl, ⟨hge, lt_of_obj hh⟩, fun j hj => ?_⟩⟩
   have hj2 : j < (((ks.map bl).mergeSort fun x y => decide (x ≤ y)).toArray).size := by rw [hsz]; simpa [hlen] using hj
   have := (hP j hj2).1
   unfold rdStr
   rw [Nat.mul_one, this, getElem!_pos _ j hj2]
   simp [srt, encStr, lb]
def SortedPost (es : List (ByteArray × Value)) (w : World) (e : Ending) (w' : World) : Prop :=
 ∃ v, e = .returned v ∧ StrsP (fun g => w.heap.size < g ∧ g < w'.heap.size) w' v (srt (es.map (·.1))) ∧ Chg [] w w'
theorem sorted_any (fv : Value) (es : List (ByteArray × Value)) (hN : es.length ≤ 100000) (w : World) (hcol : Calls Tryz.prog 71 #[fv] w (CollPost es w)) :
 Calls Tryz.prog 39 #[fv] w (SortedPost es w) := by
 have Hcol := Lib.hid hcol
 clear hcol
 go_enter Tryz.func39, Tryz.ntmps39
 go_wp2_with fail
 refine Hcol.out.mono ?_
 rintro e w1 ⟨v, ks, rfl, hp, how, hc⟩
 have hl := hp.length_eq
 rw [List.length_map] at hl
 have hge : ∀ x, v.ownBlock = some x → w.heap.size + 1 ≤ x ∧ x < w1.heap.size := fun x hx => ownsRow_ge how hx
 have Hso := Lib.hid (sortStrs_any v ks _ w1 how (by omega))
 have Hp := Lib.hid hp
 have Hc := Lib.hid hc
 have Hge := Lib.hid hge
 clear hp how hc hge hl
 go_wp2_with fail
 refine Hso.out.mono ?_
 rintro e w2 ⟨rfl, hs, hc2⟩
 have Hs := Lib.hid hs
 have Hc2 := Lib.hid hc2
 clear hs hc2
 go_wp2_with fail
 go_ret
 refine ⟨v, rfl, ?_, Hc.out.comp Hc2.out fun x hx => Or.inr ?_⟩
 · rw [← srt_congr Hp.out]
   exact SlR.imp Hs.out (fun g hg => ⟨by have := hg.1; omega, Nat.lt_of_lt_of_le hg.2 Hc2.out.size⟩) fun _ _ _ h => h
 · have := Hge.out x (by simpa using hx)
   omega
end Go.Proofs.YtjlknaahpjiibaaGreatDoor.F
