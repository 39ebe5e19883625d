/- Part of the proof of topCrashedLaw_holds. -/
import Derived.ProofKit
import Derived.OpenShut
import Derived.ShutString
import Derived.ChangeOld
import Derived.Deep.Slices
import Derived.Deep.Strs
import Derived.Test.YtjlknaahpjiibaaGreatDoorQaa
namespace Go.Proofs.YtjlknaahpjiibaaGreatDoor
open Go.ChangeShapes Go.WideShapes Go.ChangeAt Go.RowKit Go.Deep
set_option linter.unusedVariables false
section
variable {P : Program} {H : Type} {enc : TypeId × Value → H} {W : World}
theorem open_sl {T E : TypeId} {sz : Nat} (ht : P.underlying T = some (.slice E)) (hsz : P.cellsOf E = sz) {α : Type} (F : α → Addr → Prop) (d : α) (hspot : ∀ z ad, F z ad → ad.spot = none)
 (hel : ∀ n ad cs y, W.cells? 0 ad sz = some cs → DataW.trod enc P W 0 (fun _ => true) true n E cs = some y → ∃ z, F z ad)
 {fuel : Nat} {cs : List Value} {x : DataW H × List MemPlace} (h : DataW.trod enc P W 0 (fun _ => true) true fuel T cs = some x) :
 ∃ (a : Option Addr) (cap : Nat) (xs : List α), cs = [.slice a xs.length cap] ∧ xs.length ≤ cap ∧ cap ≤ maxLen ∧ (0 < xs.length → ∃ g off, a = some ⟨g, off, none⟩ ∧ ∀ j, j < xs.length → F (xs.getD j d) ⟨g, off + j * sz, none⟩) := by
 rcases open_slice ht h with ⟨hcs, _⟩ | ⟨a, len, cap, m, n, D, Pl, hcs, hb, hl, hm, hmm, hx, hi⟩
 · exact ⟨none, 0, [], by simpa using hcs, by simp, by simp, fun h => absurd h (by simp)⟩
 · simp only [if_true] at hmm
   rw [hsz] at hi
   have hf : ∀ i, i < len → ∃ z : α, F z (a.add (i * sz)) := by
    intro i him
    obtain ⟨cs', hc, hy⟩ := hi i (by omega)
    exact hel _ _ _ _ hc hy
   have hex : ∃ f : Nat → α, ∀ i, i < len → F (f i) (a.add (i * sz)) :=
    ⟨fun i => if hi : i < len then (hf i hi).choose else d, fun i hi => by simp only [dif_pos hi]; exact (hf i hi).choose_spec⟩
   obtain ⟨f, hff⟩ := hex
   refine ⟨some a, cap, (List.range len).map f, by simpa using hcs, by simpa using hl, hm, fun h0 => ?_⟩
   have h0' : 0 < len := by simpa using h0
   obtain ⟨b, off, spot⟩ := a
   have hs : spot = none := by
    have := hspot _ _ (hff 0 h0')
    simpa [Addr.add] using this
   subst hs
   refine ⟨b, off, rfl, fun j hj => ?_⟩
   have hj' : j < len := by simpa using hj
   have := hff j hj'
   rw [Addr.add_lit] at this
   simpa [hj'] using this
theorem cells_one {ad : Addr} {cs : List Value} (h : W.cells? 0 ad 1 = some cs) : ∃ v, cs = [v] ∧ W.cell? ad = some v := by
 obtain ⟨_, hl, hc⟩ := World.cells?_some h
 match cs, hl with
 | [v], _ => exact ⟨v, rfl, by simpa [Addr.add] using hc 0 (by omega)⟩
theorem cells_at {ad : Addr} {n : Nat} {cs : List Value} (h : W.cells? 0 ad n = some cs) : cs.length = n ∧ ∀ i, i < n → W.cell? (ad.add i) = cs[i]? := by
 obtain ⟨_, hl, hc⟩ := World.cells?_some h
 exact ⟨hl, hc⟩
theorem spot_of_cell {ad : Addr} {v : Value} (h : W.cell? ad = some v) : ad.spot = none := World.cell?_spot h
end
end Go.Proofs.YtjlknaahpjiibaaGreatDoor
