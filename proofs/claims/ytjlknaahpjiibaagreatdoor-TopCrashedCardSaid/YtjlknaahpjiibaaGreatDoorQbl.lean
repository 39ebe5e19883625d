/- Part of the proof of topCrashedLaw_holds. -/
import Derived.Maps.AppendAt
import Derived.Deep.Slices
import Derived.ProofKit
import Derived.Deep.DeepCutAuto
import Derived.Deep.RegionLaw
import Derived.Test.YtjlknaahpjiibaaGreatDoorProg
import Derived.Test.YtjlknaahpjiibaaGreatDoorQab
import Derived.Test.YtjlknaahpjiibaaGreatDoorQae
namespace Go.Proofs.YtjlknaahpjiibaaGreatDoor.Fr
open Go.RowKit Go.ChangeMaps Go.MapKept
set_option linter.unusedVariables false
set_option linter.unusedSimpArgs false
def sk (s : ByteArray) : Value := .string s
def rdStr (w : World) (ad : Addr) (x : ByteArray) : Prop := w.cell? ad = some (.string x)
def StrsP (p : Nat → Prop) (w : World) (v : Value) (xs : List ByteArray) : Prop := SlR p 1 rdStr w v xs
theorem StrsP.shape {p : Nat → Prop} {w : World} {v : Value} {xs : List ByteArray} (h : StrsP p w v xs) : ∃ a cap, v = .slice a xs.length cap ∧ xs.length ≤ maxLen ∧ xs.length ≤ cap := SlR.shape h
theorem StrsP.kept {p : Nat → Prop} {S : Nat → Prop} {w w' : World} {v : Value} {xs : List ByteArray} (h : StrsP p w v xs) (hc : ChgP S w w') (hS : ∀ k, p k → ¬ S k) : StrsP p w' v xs :=
 SlR.imp h (fun _ h => h) fun ad x hp hx => (hc.cell (lt_of_cell hx) (hS _ hp)).trans hx
theorem StrsP.same {p : Nat → Prop} {w w' : World} {v : Value} {xs : List ByteArray} (h : StrsP p w v xs) (hc : Chg [] w w') : StrsP p w' v xs := h.kept (hc.p (S := fun _ => False)) fun _ _ h => h
theorem StrsP.imp {p q : Nat → Prop} {w : World} {v : Value} {xs : List ByteArray} (h : StrsP p w v xs) (hp : ∀ g, p g → q g) : StrsP q w v xs := SlR.imp h hp fun _ _ _ h => h
theorem StrsP.cell {p : Nat → Prop} {w : World} {a : Option Addr} {n cap : Nat} {xs : List ByteArray} (h : StrsP p w (.slice a n cap) xs) (i : Nat) (hi : i < xs.length) :
 ∃ g off, a = some ⟨g, off, none⟩ ∧ p g ∧ w.cell? ⟨g, off + i, none⟩ = some (.string (xs.getD i ⟨#[]⟩)) := by
 obtain ⟨g, off, rfl, hp, h⟩ := SlR.at h i hi ⟨#[]⟩
 exact ⟨g, off, rfl, hp, by rw [Nat.mul_one] at h; exact h⟩
theorem StrsP.take {p : Nat → Prop} {w : World} {a : Option Addr} {n cap : Nat} {E : List ByteArray} (h : StrsP p w (.slice a n cap) E) (k : Nat) (hk : k ≤ E.length) : StrsP p w (.slice a k cap) (E.take k) := by
 obtain ⟨a', cap', hv, h1, h2, h3⟩ := h
 simp only [Value.slice.injEq] at hv
 obtain ⟨rfl, rfl, rfl⟩ := hv
 have hl : (E.take k).length = k := by simp; omega
 refine ⟨a, cap, by rw [hl], by omega, h2, fun h0 => ?_⟩
 obtain ⟨g, off, rfl, hp, hc⟩ := h3 (by omega)
 refine ⟨g, off, rfl, hp, fun j hj => ?_⟩
 rw [List.getElem_take]
 exact hc j (by omega)
def OwnS (w : World) (base : Nat) (v : Value) (l : List ByteArray) : Prop := w.ownsRow base 9 1 v l.length (l.map sk)
theorem OwnS.nil (w : World) (base : Nat) : OwnS w base (.slice none 0 0) [] := ⟨rfl, .inl ⟨rfl, rfl⟩⟩
theorem OwnS.kept {w w' : World} {base : Nat} {v : Value} {xs : List ByteArray} {S : Nat → Prop} (h : OwnS w base v xs) (hc : ChgP S w w') (hS : ∀ g, v.ownBlock = some g → ¬ S g) : OwnS w' base v xs :=
 ownsRow_kept h fun g hg hl => hc.block g hl (hS g hg)
theorem OwnS.same {w w' : World} {base : Nat} {v : Value} {xs : List ByteArray} (h : OwnS w base v xs) (hc : Chg [] w w') : OwnS w' base v xs := h.kept (hc.p (S := fun _ => False)) fun _ _ h => h
theorem OwnS.strs {w : World} {base : Nat} {v : Value} {xs : List ByteArray} (h : OwnS w base v xs) : StrsP (fun g => base ≤ g ∧ g < w.heap.size ∧ v.ownBlock = some g) w v xs := by
 obtain ⟨a, cap, rfl⟩ := ownsRow_shape h
 rcases h.2 with ⟨hv, hx⟩ | ⟨g, cap', cur', hv, hge, hh, h3, h4, h5, h6⟩
 · have hk : xs = [] := List.eq_nil_of_length_eq_zero hx
   subst hk
   simp only [List.length_nil, Value.slice.injEq] at hv
   obtain ⟨rfl, _, rfl⟩ := hv
   exact SlR.nil _ _ _ _
 · cases hv
   refine ⟨_, cap, rfl, by omega, by omega, fun _ => ⟨g, 0, rfl, ⟨hge, lt_of_obj hh, rfl⟩, fun j hj => ?_⟩⟩
   have := World.ownsRow.cells h (g := g) rfl j (sk xs[j]) (by simp [hj])
   rw [Addr.add_lit] at this
   unfold rdStr
   rw [Nat.mul_one]
   exact this
theorem Tryz.infoStr : (Tryz.prog.info? 9).map (fun i => (i.zero, i.size, i.bytes)) = some (some (.string ⟨#[]⟩), 1, 16) := by kernel_rfl
theorem run_append_strs (w : World) (ty : TypeId) (B : Nat) (p : Nat → Prop) (v sv : Value) (l m : List ByteArray) (hv : OwnS w B v l) (hs : StrsP p w sv m) (hlen : l.length + m.length ≤ 100000) (hB : B ≤ w.heap.size) :
 ∃ v' w', (Builtin.append_ #[22, 22] ty #[v, sv]).run Tryz.prog w = .ok v' w' ∧ OwnS w' B v' (l ++ m) ∧ Chg v.ownBlock.toList w w' := by
 obtain ⟨i0, hi, hz0, hz1, hz2⟩ := info_parts Tryz.infoStr
 obtain ⟨a, cap, rfl, _, _⟩ := hs.shape
 by_cases h0 : m = []
 · subst h0
   refine ⟨v, w, ?_, by simpa using hv, Chg.refl _ _⟩
   rcases hv.2 with ⟨rfl, h1⟩ | ⟨g, cap', cur, rfl, _, _, hnc, _⟩
   · cases a <;> simp [Builtin.append_, run_underlying Tryz.underlying22, sizeOf, typeInfo, hi, Builtin.lenOf, Builtin.firstCells, h1, loadCells, loadCellsFrom, Result.andThen]
   · cases a <;> simp [Builtin.append_, run_underlying Tryz.underlying22, sizeOf, typeInfo, hi, Builtin.lenOf, Builtin.firstCells, hnc, storeCells, loadCells, loadCellsFrom, Result.andThen]
 · have hpos : 0 < m.length := List.length_pos_iff.2 h0
   obtain ⟨g, off, rfl, hp, hc⟩ : ∃ g off, a = some ⟨g, off, none⟩ ∧ p g ∧ ∀ j (h : j < m.length), rdStr w ⟨g, off + j * 1, none⟩ m[j] := by
    obtain ⟨a', cap', hv', _, _, h3⟩ := hs
    simp only [Value.slice.injEq] at hv'
    obtain ⟨rfl, _, _⟩ := hv'
    exact h3 hpos
   obtain ⟨v', w', hr, h2, h3, _, h5⟩ := run_append_own_at (P := Tryz.prog) w B 22 ty 9 i0 (.string ⟨#[]⟩) 1 16 Tryz.underlying22 hi hz0 hz1 hz2 rfl (by decide) v l.length (l.map sk) hv ⟨g, off, none⟩ m.length cap (m.map sk) (by simp) (fun j u hj => by
    have hj' : j < m.length := by have := (List.getElem?_eq_some_iff.1 hj).1; simpa using this
    have := hc j hj'
    unfold rdStr at this
    rw [Nat.mul_one] at this
    rw [Addr.add_lit, this]
    simpa [hj', sk] using hj) (fun u hu => by
    obtain ⟨x, _, rfl⟩ := List.mem_map.1 hu
    rfl) (by unfold maxLen; omega) (by omega) hB
   refine ⟨v', w', hr, ?_, (Chg.refl _ w).grown h3 (by intro k hk; left; simp [hk])⟩
   unfold OwnS
   rw [List.map_append, List.length_append]
   exact h2
theorem str1_at {w : World} {n : Nat} {x : ByteArray} {T : TypeId} {fr : Nat × Nat} (h : w.heap[n]? = some (.cells #[.string x] T fr)) : StrsP (fun g => g = n) w (.slice (some ⟨n, 0, none⟩) 1 1) [x] := by
 refine ⟨_, 1, rfl, Nat.le_refl _, by simp [maxLen], fun _ => ⟨n, 0, rfl, rfl, fun j hj => ?_⟩⟩
 match j, hj with
 | 0, _ => exact cell_of_heap h rfl
set_option maxHeartbeats 4000000 in
theorem eqStrs_any (p q : Nat → Prop) (w : World) (v1 v2 : Value) (E : List ByteArray) (h1 : StrsP p w v1 E) (h2 : StrsP q w v2 E) :
 Calls Tryz.prog 16 #[v1, v2] w fun e w' => e = .returned (.bool true) ∧ Chg [] w w' := by
 obtain ⟨a1, cap1, rfl, hml, hcp1⟩ := h1.shape
 obtain ⟨a2, cap2, rfl, _, hcp2⟩ := h2.shape
 have H1 := Lib.hid h1
 have H2 := Lib.hid h2
 unfold maxLen at hml
 clear h1 h2
 go_enter Tryz.func16, Tryz.ntmps16
 go_wp2_with fail
 go_loopw [14] (fun i wr => ∃ k : Nat, k ≤ E.length ∧ i = .int .i64 (k : Nat) ∧ Chg [] w wr) (fun i _ => E.length - (intOf i).toNat)
 case atStart => exact ⟨0, by omega, rfl, Chg.refl _ _⟩
 case round =>
  obtain ⟨k, hk, rfl, hc⟩ := hrel
  by_cases hlt : k < E.length
  · obtain ⟨g, off, rfl, hp, c0⟩ := (H1.out.same hc).cell k hlt
    obtain ⟨g2, off2, rfl, hp2, d0⟩ := (H2.out.same hc).cell k hlt
    obtain ⟨x, hr⟩ : ∃ r, E.getD k ⟨#[]⟩ = r := ⟨_, rfl⟩
    rw [hr] at c0 d0
    have Hc := Lib.hid hc
    have hk1 : (k : Int) < E.length := by omega
    clear hr hc
    go_wp2_with fail
    exact ⟨⟨k + 1, by omega, by go_num, Hc.out⟩, by simp [intOf]; omega⟩
  · obtain rfl : k = E.length := by omega
    have hk1 : ¬ ((E.length : Int) < E.length) := by omega
    have Hc := Lib.hid hc
    clear hc
    go_wp2_with fail
    go_ret
    exact ⟨rfl, Hc.out⟩
end Go.Proofs.YtjlknaahpjiibaaGreatDoor.Fr
