/- Reading the Docsync laws' arguments: lists of lists of edits, whose texts are no longer than a machine can hold. -/
import Derived.Test.YtihpcpcfccamoaaDocE
import Derived.Test.YtihpcpcfccamoaaOpen
import Derived.SizedLaws
namespace Go.Proofs.Ytihpcpcfccamoaa
open Go.ChangeShapes Go.WideShapes Go.ChangeAt Go.RowKit Go.Deep
set_option linter.unusedVariables false
theorem Try.laidOut : laidOutB Try.prog = true := by kernel_rfl
theorem Try.own : ownKnob Try.prog.godebug = none := by kernel_rfl
theorem Try.cellsInt : Try.prog.cellsOf 3 = 1 := by kernel_rfl
theorem Try.cellsString : Try.prog.cellsOf 9 = 1 := by kernel_rfl
theorem Try.cellsEdit : Try.prog.cellsOf 56 = 3 := by kernel_rfl
theorem Try.cellsEdits : Try.prog.cellsOf 42 = 1 := by kernel_rfl
theorem Try.cellsStep : Try.prog.cellsOf 39 = 3 := by kernel_rfl
section
variable {P : Program} {H : Type} {enc : TypeId × Value → H} {W : World}
theorem weightsAll_in {e : TypeId} : ∀ {l : List (DataW H)} {d : DataW H}, d ∈ l → ∀ n ∈ d.weights P e, n ∈ DataW.weightsAll P e l
  | d' :: r, d, hd, n, hn => by
    simp only [DataW.weightsAll, List.mem_append]
    rcases List.mem_cons.1 hd with rfl | h
    · exact Or.inl hn
    · exact Or.inr (weightsAll_in h n hn)
/-- a slice, with what its datum weighs -/
theorem open_slW {T E : TypeId} {sz : Nat} (ht : P.underlying T = some (.slice E)) (hsz : P.cellsOf E = sz) {α : Type} (F : α → Addr → Prop) (d : α) (hspot : ∀ z ad, F z ad → ad.spot = none)
    (hel : ∀ n ad cs y, W.cells? 0 ad sz = some cs → DataW.trod enc P W 0 (fun _ => true) true n E cs = some y → (∀ m ∈ y.1.weights P E, m ≤ reachBytes) → ∃ z, F z ad)
    {fuel : Nat} {cs : List Value} {x : DataW H × List MemPlace} (h : DataW.trod enc P W 0 (fun _ => true) true fuel T cs = some x) (hw : ∀ m ∈ x.1.weights P T, m ≤ reachBytes) :
    ∃ (a : Option Addr) (cap : Nat) (xs : List α), cs = [.slice a xs.length cap] ∧ xs.length ≤ cap ∧ cap ≤ maxLen ∧ (0 < xs.length → ∃ g off, a = some ⟨g, off, none⟩ ∧ ∀ j, j < xs.length → F (xs.getD j d) ⟨g, off + j * sz, none⟩) := by
  rcases open_slice ht h with ⟨hcs, _⟩ | ⟨a, len, cap, m, n, D, Pl, hcs, hb, hl, hm, hmm, hx, hi⟩
  · exact ⟨none, 0, [], by simpa using hcs, by simp, by simp, fun h => absurd h (by simp)⟩
  · simp only [if_true] at hmm
    rw [hsz] at hi
    have hf : ∀ i, i < len → ∃ z : α, F z (a.add (i * sz)) := by
      intro i him
      obtain ⟨cs', hc, hy⟩ := hi i (by omega)
      refine hel _ _ _ _ hc hy fun m' hm' => hw m' ?_
      rw [hx]
      simp only [DataW.weights, ht, List.mem_cons, List.mem_append]
      exact Or.inr (Or.inl (weightsAll_in (List.mem_map.2 ⟨i, List.mem_range.2 him, rfl⟩) m' hm'))
    have hex : ∃ f : Nat → α, ∀ i, i < len → F (f i) (a.add (i * sz)) :=
      ⟨fun i => if hi : i < len then (hf i hi).choose else d, fun i hi => by simp only [dif_pos hi]; exact (hf i hi).choose_spec⟩
    obtain ⟨f, hff⟩ := hex
    refine ⟨some a, cap, (List.range len).map f, by simpa using hcs, by simpa using hl, hm, fun h0 => ?_⟩
    have h0' : 0 < len := by simpa using h0
    obtain ⟨b, off, spot⟩ := a
    have hs : spot = none := by
      have := hspot _ _ (hff 0 h0')
      simpa [Addr.add] using this
    subst hs
    refine ⟨b, off, rfl, fun j hj => ?_⟩
    have hj' : j < len := by simpa using hj
    have := hff j hj'
    rw [Addr.add_lit] at this
    simpa [hj'] using this
theorem open_steps {fuel : Nat} {cs : List Value} {x : DataW H × List MemPlace} (h : DataW.trod enc Try.prog W 0 (fun _ => true) true fuel 22 cs = some x) :
    ∃ v xs, cs = [v] ∧ I3s (fun g => g < W.heap.size) W v xs := by
  obtain ⟨a, cap, xs, rfl, h1, h2, h3⟩ := open_sl Try.underlying22 Try.cellsStep (fun (z : I3) ad => ad.spot = none ∧ rdI3 W ad z) (0, 0, 0) (fun z ad h => h.1)
    (fun n ad cs y hc hy => by
      obtain ⟨hl, hat⟩ := cells_at hc
      obtain ⟨y0, y1, y2, n', _, hlen, t0, t1, t2⟩ := trod_struct3 Try.underlying39 hy
      simp only [Try.cellsInt] at t0 t1 t2
      match cs, hl with
      | [c0, c1, c2], _ =>
        obtain ⟨z0, h0, _⟩ := DataW.trod_int Try.underlying3 t0
        obtain ⟨z1, h1, _⟩ := DataW.trod_int Try.underlying3 t1
        obtain ⟨z2, h2, _⟩ := DataW.trod_int Try.underlying3 t2
        simp only [List.drop_zero, List.drop_succ_cons, List.take_succ_cons, List.take_zero, List.cons.injEq, and_true] at h0 h1 h2
        subst h0 h1 h2
        have e0 := hat 0 (by omega)
        have e1 := hat 1 (by omega)
        have e2 := hat 2 (by omega)
        have hs : ad.spot = none := spot_of_cell (W := W) (v := .int .i64 z0) (by simpa [Addr.add] using e0)
        obtain ⟨b, off, spot⟩ := ad
        simp only at hs
        subst hs
        rw [Addr.add_lit] at e0 e1 e2
        exact ⟨(z0, z1, z2), rfl, e0, e1, e2⟩) h
  refine ⟨_, xs, rfl, a, cap, rfl, h1, h2, fun h0 => ?_⟩
  obtain ⟨g, off, rfl, hc⟩ := h3 h0
  exact ⟨g, off, rfl, lt_of_cell (hc 0 h0).2.1, fun j hj => by have := (hc j hj).2; simpa [hj] using this⟩
theorem open_eds {fuel : Nat} {cs : List Value} {x : DataW H × List MemPlace} (h : DataW.trod enc Try.prog W 0 (fun _ => true) true fuel 42 cs = some x) (hw : ∀ m ∈ x.1.weights Try.prog 42, m ≤ reachBytes) :
    ∃ v xs, cs = [v] ∧ Eds (fun g => g < W.heap.size) W v xs ∧ Fits xs := by
  obtain ⟨a, cap, xs, rfl, h1, h2, h3⟩ := open_slW Try.underlying42 Try.cellsEdit (fun (z : Edit) ad => ad.spot = none ∧ rdE W ad z ∧ z.t.size ≤ 140737488355328) Edit.zero (fun z ad h => h.1)
    (fun n ad cs y hc hy hwy => by
      obtain ⟨hl, hat⟩ := cells_at hc
      obtain ⟨y0, y1, y2, n', hyx, hlen, t0, t1, t2⟩ := trod_struct3 Try.underlying56 hy
      simp only [Try.cellsInt, Try.cellsString] at t0 t1 t2
      match cs, hl with
      | [c0, c1, c2], _ =>
        obtain ⟨z0, h0, _⟩ := DataW.trod_int Try.underlying3 t0
        obtain ⟨z1, h1, _⟩ := DataW.trod_int Try.underlying3 t1
        obtain ⟨z2, h2, e2x, _⟩ := DataW.trod_string Try.underlying9 t2
        simp only [List.drop_zero, List.drop_succ_cons, List.take_succ_cons, List.take_zero, List.cons.injEq, and_true] at h0 h1 h2
        subst h0 h1 h2
        have e0 := hat 0 (by omega)
        have e1 := hat 1 (by omega)
        have e2 := hat 2 (by omega)
        have hs : ad.spot = none := spot_of_cell (W := W) (v := .int .i64 z0) (by simpa [Addr.add] using e0)
        obtain ⟨b, off, spot⟩ := ad
        simp only at hs
        subst hs
        rw [Addr.add_lit] at e0 e1 e2
        have hz : z2.size ≤ reachBytes := hwy z2.size (by
          rw [hyx, e2x]
          simp [DataW.weights, Try.underlying56, DataW.weightsEach, show z2.data.size = z2.size from rfl])
        have hr := reachBytes_lt
        exact ⟨⟨z0, z1, z2⟩, rfl, ⟨e0, e1, e2⟩, by show z2.size ≤ _; omega⟩) h hw
  refine ⟨_, xs, rfl, ⟨a, cap, rfl, h1, h2, fun h0 => ?_⟩, fun z hz => ?_⟩
  · obtain ⟨g, off, rfl, hc⟩ := h3 h0
    exact ⟨g, off, rfl, lt_of_cell (hc 0 h0).2.1.1, fun j hj => by have := (hc j hj).2.1; simpa [hj] using this⟩
  · obtain ⟨i, hi, rfl⟩ := List.getElem_of_mem hz
    obtain ⟨g, off, rfl, hc⟩ := h3 (by omega)
    have := (hc i hi).2.2
    simpa [hi] using this
theorem open_edss {fuel : Nat} {cs : List Value} {x : DataW H × List MemPlace} (h : DataW.trod enc Try.prog W 0 (fun _ => true) true fuel 23 cs = some x) (hw : ∀ m ∈ x.1.weights Try.prog 23, m ≤ reachBytes) :
    ∃ v xs, cs = [v] ∧ Edss (fun g => g < W.heap.size) W v xs ∧ ∀ E ∈ xs, Fits E := by
  obtain ⟨a, cap, xs, rfl, h1, h2, h3⟩ := open_slW Try.underlying23 Try.cellsEdits (fun (z : List Edit) ad => (∃ u, W.cell? ad = some u ∧ Eds (fun g => g < W.heap.size) W u z) ∧ Fits z) [] (fun z ad h => by obtain ⟨⟨u, hu, _⟩, _⟩ := h; exact spot_of_cell hu)
    (fun n ad cs y hc hy hwy => by
      obtain ⟨v, rfl, hv⟩ := cells_one hc
      obtain ⟨v', l, hz, hl, hf⟩ := open_eds hy hwy
      simp only [List.cons.injEq, and_true] at hz
      subst hz
      exact ⟨l, ⟨v, hv, hl⟩, hf⟩) h hw
  refine ⟨_, xs, rfl, ⟨a, cap, rfl, h1, h2, fun h0 => ?_⟩, fun z hz => ?_⟩
  · obtain ⟨g, off, rfl, hc⟩ := h3 h0
    have hc0 := (hc 0 h0).1
    obtain ⟨u, hu, _⟩ := hc0
    exact ⟨g, off, rfl, lt_of_cell hu, fun j hj => by have := (hc j hj).1; simpa [hj] using this⟩
  · obtain ⟨i, hi, rfl⟩ := List.getElem_of_mem hz
    obtain ⟨g, off, rfl, hc⟩ := h3 (by omega)
    have := (hc i hi).2
    simpa [hi] using this
end
end Go.Proofs.Ytihpcpcfccamoaa
