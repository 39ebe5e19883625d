/- The sorted row of keys, in plain words. -/
import Derived.Test.YtenjjiilcdgimaaDgK
import Derived.Test.YtenjjiilcdgimaaDgH
import Derived.Shelf.SlSortCmp.NoneTotal
namespace Go.Proofs.Ytenjjiilcdgimaa
open Go.RowKit Go.ChangeMaps Go.MapKept Go.Shelf Go.Lib Go.Sort
set_option linter.unusedVariables false
set_option linter.unusedSimpArgs false
theorem sorted_of {l : List I3} {a : Array I3} (hp : a.toList.Perm l) (hn : l.Nodup) (h : ∀ i j, i < j → j < a.size → ¬ cmpK a[j]! a[i]! < 0) : SortedK a.toList := by
  have hnd : a.toList.Nodup := hp.nodup_iff.2 hn
  unfold SortedK
  rw [List.pairwise_iff_getElem]
  intro i j hi hj hij
  have hi' : i < a.size := by simpa using hi
  have hj' : j < a.size := by simpa using hj
  have h1 := h i j hij hj'
  rw [getElem!_pos a i hi', getElem!_pos a j hj', cmpK_lt] at h1
  have hne : a.toList[i] ≠ a.toList[j] := fun e => by
    have := (List.getElem_inj hnd).1 e
    omega
  rcases ltK_total a.toList[i] a.toList[j] with e | e | e
  · exact e
  · exact absurd e hne
  · exact absurd e (by simpa using h1)
theorem keys_holds {p : Nat → Prop} {w : World} {blk cap : Nat} {a : Array I3} (h : HoldsK encK 3 w blk 0 a) (hp : p blk) (h1 : a.size ≤ cap) (h2 : cap ≤ maxLen) : I3s p w (.slice (some ⟨blk, 0, none⟩) a.size cap) a.toList := by
  refine ⟨_, cap, by simp, by simpa using h1, by simpa using h2, fun _ => ⟨blk, 0, rfl, hp, fun i hi => ?_⟩⟩
  have hi' : i < a.size := by simpa using hi
  have c0 := (h.cell (i := i) (c := 0) hi' (by decide)).1
  have c1 := (h.cell (i := i) (c := 1) hi' (by decide)).1
  have c2 := (h.cell (i := i) (c := 2) hi' (by decide)).1
  have e : a[i]! = a.toList[i] := by rw [getElem!_pos a i hi']; simp
  rw [e] at c0 c1 c2
  exact ⟨c0, c1, c2⟩
theorem sortRow_any (w : World) (B : Nat) (v : Value) (l : List I3) (h : OwnK w B v l) (hl : l.length ≤ 1000) (hn : l.Nodup) :
    Calls Try.prog 28 #[v, .func (.func 29) #[] #[]] w fun e w' =>
      e = .returned (.tuple #[]) ∧ ∃ l' : List I3, l'.Perm l ∧ SortedK l' ∧ I3s (fun g => v.ownBlock = some g) w' v l' ∧ Chg v.ownBlock.toList w w' := by
  obtain ⟨a, cap, rfl⟩ := ownsRow_shape h
  by_cases h0 : l = []
  · subst h0
    refine (AnyF.slices_SortFunc_none (P := Try.prog) (ρ := Try.laysSlF06_f28_ren) { Try.laysSlF06_f28 with } a cap _ _).mono ?_
    rintro e w' ⟨rfl, rfl⟩
    exact ⟨rfl, [], List.Perm.refl _, List.Pairwise.nil, ⟨a, cap, rfl, Nat.zero_le _, h.bound.2.2, fun hx => absurd hx (by simp)⟩, Chg.refl _ _⟩
  · have hpos : 0 < l.length := List.length_pos_iff.2 h0
    obtain ⟨_, b1, b2⟩ := h.bound
    obtain ⟨blk, c, hv, _, hlt⟩ := World.ownsRow.form h hpos
    simp only [Value.slice.injEq, true_and] at hv
    obtain ⟨rfl, rfl⟩ := hv
    have hs := sortKeys_any (cap := cap) l.toArray (holds_keys h) hlt (by simp; omega)
    simp only [List.size_toArray] at hs
    refine hs.mono ?_
    rintro e w' ⟨rfl, a', hsz, hp, hso, hH, hc⟩
    rw [← hsz] at hso ⊢
    exact ⟨rfl, a'.toList, by simpa using hp, sorted_of (by simpa using hp) hn hso, keys_holds hH rfl (by omega) b2, by simpa [Value.ownBlock] using hc⟩
end Go.Proofs.Ytenjjiilcdgimaa
