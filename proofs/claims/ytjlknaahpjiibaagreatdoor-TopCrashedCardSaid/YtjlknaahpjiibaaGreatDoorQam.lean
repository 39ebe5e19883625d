/- Part of the proof of topCrashedLaw_holds. -/
import Derived.Shelf.SlSortCmp.NoneTotal
import Derived.Ground.SlsfProg
import Derived.Test.YtjlknaahpjiibaaGreatDoorQag
import Derived.Test.YtjlknaahpjiibaaGreatDoorQak
import Derived.Test.YtjlknaahpjiibaaGreatDoorQal
namespace Go.Proofs.YtjlknaahpjiibaaGreatDoor.J
open Go.RowKit Go.ChangeMaps Go.MapKept Go.Shelf Go.Lib Go.Sort
set_option linter.unusedVariables false
set_option linter.unusedSimpArgs false
set_option maxHeartbeats 1000000 in
set_option maxRecDepth 100000 in
theorem cmpString_any (a b : ByteArray) (w : World) : Calls Tryz.prog 102 #[.string a, .string b] w fun e w' => e = .returned (.int .i64 (Lib.compareBytes a.data.toList b.data.toList)) ∧ w' = w := by
 go_enter Tryz.func102, Tryz.ntmps102
 go_wp2
 rw [run_callFunc_extern Tryz.func145 (by kernel_rfl) (by kernel_rfl) (by kernel_rfl) (e := Extern.BytealgCompare.compare) (by kernel_rfl), Lib.run_compareString]
 simp only [Result.andThen]
 rw [Oper.upon_value]
 go_wp2
 go_ret
 exact ⟨rfl, rfl⟩
theorem compare_any (a b : ByteArray) (w : World) : Calls Tryz.prog 55 #[.string a, .string b] w fun e w' => e = .returned (.int .i64 (Lib.compareBytes a.data.toList b.data.toList)) ∧ w' = w := by
 go_enter Tryz.func55, Tryz.ntmps55
 go_wp2_with (go_at_call 102; refine (cmpString_any _ _ _).mono ?_; rintro e w' ⟨rfl, rfl⟩)
 go_ret
 exact ⟨rfl, rfl⟩
def encR (r : Rec) : List Value := [.string r.key, .string r.val, .bool r.del]
def recO (r : Rec) : Obj := .cells #[.string r.key, .string r.val, .bool r.del] 78
set_option maxHeartbeats 1000000 in
set_option maxRecDepth 100000 in
theorem stateCmp_any (a b : Rec) (W : World) :
 Calls Tryz.prog 67 #[.agg #[.string a.key, .string a.val, .bool a.del], .agg #[.string b.key, .string b.val, .bool b.del]] W fun e w' => e = .returned (.int .i64 (cfR a b)) ∧ w' = (W.alloc (recO a)).alloc (recO b) := by
 go_enter Tryz.func67, Tryz.ntmps67
 go_wp2_with fail
 refine (compare_any _ _ _).mono ?_
 rintro e w' ⟨rfl, rfl⟩
 go_wp2_with fail
 go_ret
 exact ⟨rfl, rfl⟩
theorem swoR : SWO (ltOf cfR) where
 irrefl x := by unfold ltOf; have := (cfR_zero (a := x) (b := x)).2 rfl; simp [this]
 trans x y z h1 h2 := by
  unfold ltOf at *
  simp only [decide_eq_true_eq] at *
  exact cfR_trans h1 h2
 ntrans x y z h1 h2 := by
  unfold ltOf at *
  simp only [decide_eq_false_iff_not] at *
  intro h3
  have n1 := cfR_neg x y
  have n2 := cfR_neg y z
  by_cases e1 : cfR x y = 0
  · have k := cfR_zero.1 e1
    unfold cfR at h2 h3
    rw [← k] at h2
    exact h2 h3
  · have h4 : cfR y x < 0 := by omega
    have := cfR_trans h4 h3
    exact h2 this
theorem sortW_chg {α : Type} [Inhabited α] (enc : α → List Value) (k : Nat) (w : World) (blk off m : Nat) (dk : Array α) (os : Array Obj) : Chg [blk] w (sortWorldK enc k w blk off m dk os) := by
 refine ⟨rfl, rfl, rfl, ?_, fun g hg hn => ?_⟩
 · simp [sortWorldK, grow, putRowK, putRow, mapBlock, ahead]
 · show (((w.heap.modify blk (onCells (putCells id off (flatK enc k dk))))) ++ os)[g]? = w.heap[g]?
   rw [Array.getElem?_append_left (by simpa using hg)]
   simp [Array.getElem?_modify, Ne.symm (by simpa using hn : g ≠ blk)]
theorem growR (W : World) (o1 o2 : Obj) : (W.alloc o1).alloc o2 = Go.Sort.grow (W.drewN 0) #[o1, o2] := by
 rw [alloc_eq_grow, alloc_eq_grow, grow_grow]
 rfl
instance : Inhabited Rec := ⟨Rec.zero⟩
theorem cmpLaysR {blk off size : Nat} {w : World} : CmpLays Tryz.prog 67 #[] encR 3 cfR blk off size w := by
 rintro m os dk _ x y
 refine (stateCmp_any x y _).mono ?_
 rintro e w' ⟨rfl, rfl⟩
 exact ⟨rfl, 0, _, growR _ _ _⟩
theorem enterCmpR (args : Array Value) (w : World) : (callFunc 67 args).run Tryz.prog w = .ok (.enter 67 args) w := by go_simp
theorem sortRecs_any {blk cap : Nat} {w : World} (a : Array Rec) (hH : HoldsK encR 3 w blk 0 a) (hblk : blk < w.heap.size) (hsz : a.size < 4611686018427387904) :
 Calls Tryz.prog 66 #[.slice (some ⟨blk, 0, none⟩) a.size cap, .func (.func 67) #[] #[]] w fun e w' =>
  e = .returned (.tuple #[]) ∧ ∃ a' : Array Rec, a'.size = a.size ∧ a'.toList.Perm a.toList ∧ (∀ i j, i < j → j < a.size → ¬ cfR a'[j]! a'[i]! < 0) ∧ HoldsK encR 3 w' blk 0 a' ∧ Chg [blk] w w' := by
 have hcon := AnyQ.slices_SortFunc Tryz.sortRecs 3 (fun w => by kernel_rfl) (fun w => by kernel_rfl) encR (fun _ => rfl) (fun x v hv => by simp [encR] at hv; rcases hv with rfl | rfl | rfl <;> rfl) cfR swoR 67 #[] blk 0 cap a w enterCmpR cmpLaysR hH hblk hsz
 refine hcon.mono ?_
 rintro e w' ⟨rfl, a', n, os, ⟨hs, _, hp⟩, hso, rfl⟩
 refine ⟨rfl, a', hs, ?_, fun i j hij hj => ?_, ?_, sortW_chg _ _ _ _ _ _ _ _⟩
 · have e1 : a'.extract 0 a.size = a' := by rw [← hs]; simp
   have e2 : a.extract 0 a.size = a := by simp
   rw [e1, e2] at hp
   exact hp
 · have := hso i j (Nat.zero_le _) hij hj
   unfold ltOf at this
   simpa using this
 · exact holdsK_grow _ _ _ _ _ _ _ (by simp [putRowK, putRow, mapBlock, ahead]; exact hblk) (holdsK_putRowK _ _ _ _ _ a a' (holdsK_ahead _ _ _ _ _ _ _ hH) hs)
theorem holds_recs {w : World} {base blk cap : Nat} {rs : List Rec} (h : OwnRecs w base (.slice (some ⟨blk, 0, none⟩) rs.length cap) rs) : HoldsK encR 3 w blk 0 rs.toArray := by
 intro t ht
 rw [size_flatK] at ht
 have hq : t / 3 < rs.length := by simp at ht; omega
 have hfr : w.frozen? ⟨blk, 0 + t, none⟩ = false := by
  rcases h.2 with ⟨e, _⟩ | ⟨g', cap', cur', hv, _, hh, _⟩
  · cases e
  · cases hv; exact frozen_of_heap hh
 refine ⟨?_, hfr⟩
 rw [get_flatK _ _ _ _ ht]
 obtain ⟨f0, f1, f2⟩ := recVals_get rs (t / 3) hq
 have hk : rs.toArray[t / 3]! = rs.getD (t / 3) Rec.zero := by
  rw [getElem!_pos _ _ (by simpa using hq), List.getD_eq_getElem?_getD, List.getElem?_eq_getElem hq]
  simp
 rw [hk]
 have cell : ∀ u, (recVals rs)[t]? = some u → w.cell? ⟨blk, 0 + t, none⟩ = some u := fun u hu => by
  have := World.ownsRow.cells h (g := blk) rfl _ _ hu
  rwa [Addr.add_lit] at this
 unfold encR
 rcases (by omega : t % 3 = 0 ∨ t % 3 = 1 ∨ t % 3 = 2) with e | e | e
 · rw [e]; exact cell _ ((congrArg (fun n => (recVals rs)[n]?) (by omega : t = t / 3 * 3)).trans f0)
 · rw [e]; exact cell _ ((congrArg (fun n => (recVals rs)[n]?) (by omega : t = t / 3 * 3 + 1)).trans f1)
 · rw [e]; exact cell _ ((congrArg (fun n => (recVals rs)[n]?) (by omega : t = t / 3 * 3 + 2)).trans f2)
theorem recs_holds {w : World} {blk cap : Nat} {a : Array Rec} (h : HoldsK encR 3 w blk 0 a) (h1 : a.size ≤ cap) (h2 : a.size ≤ maxLen) : Recs w (.slice (some ⟨blk, 0, none⟩) a.size cap) a.toList := by
 refine .inr ⟨blk, 0, cap, by simp, by simpa using h1, by simpa using h2, fun i hi => ?_⟩
 have hi' : i < a.size := by simpa using hi
 have e : a.toList.getD i Rec.zero = a[i]! := by
  rw [getElem!_pos a i hi', List.getD_eq_getElem?_getD, List.getElem?_eq_getElem (by simpa using hi')]
  simp
 have c0 := (h.cell (i := i) (c := 0) hi' (by decide)).1
 have c1 := (h.cell (i := i) (c := 1) hi' (by decide)).1
 have c2 := (h.cell (i := i) (c := 2) hi' (by decide)).1
 rw [e]
 exact ⟨c0, c1, c2⟩
end Go.Proofs.YtjlknaahpjiibaaGreatDoor.J
