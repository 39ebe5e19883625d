/- Rows and lists of keys that are none of the database's. -/
import Derived.Test.YtdeodcomlakpaaaNx
import Derived.Test.YtdeodcomlakpaaaNra
namespace Go.Proofs.Ytdeodcomlakpaaa
open Go.RowKit Go.ChangeMaps Go.MapKept
set_option linter.unusedVariables false
set_option linter.unusedSimpArgs false
/-- a row of ints of the law's own -/
def RowB (b : Nat) (w : World) (d : Dm) (gc cap : Nat) (xs : List Int) : Prop :=
  ∃ cur : Array Value, Box b w d gc (.cells cur 3 (0, 0)) ∧ xs.length ≤ cap ∧ cap ≤ maxLen ∧ xs.length ≤ cur.size ∧ ∀ i, i < xs.length → cur[i]? = some (.int .i64 (xs.getD i 0))
variable {b gc cap : Nat} {w w' : World} {d d' : Dm} {xs : List Int}
theorem RowB.new (h : RowB b w d gc cap xs) (hc : Chg [] w w') : RowB b w' d gc cap xs := by
  obtain ⟨cur, h1, h2⟩ := h
  exact ⟨cur, h1.new hc, h2⟩
theorem RowB.after (h : RowB b w d gc cap xs) (ha : After b w w' d d') : RowB b w' d' gc cap xs := by
  obtain ⟨cur, h1, h2⟩ := h
  exact ⟨cur, h1.after ha, h2⟩
theorem RowB.lt (h : RowB b w d gc cap xs) : gc < w.heap.size := by
  obtain ⟨cur, h1, h2⟩ := h
  exact lt_of_obj h1.blk
theorem RowB.off (h : RowB b w d gc cap xs) : gc ∉ d.muts b := by
  obtain ⟨cur, h1, h2⟩ := h
  exact h1.off
theorem RowB.cell (h : RowB b w d gc cap xs) {i : Nat} (hi : i < xs.length) : w.cell? ⟨gc, i, none⟩ = some (.int .i64 (xs.getD i 0)) := by
  obtain ⟨cur, h1, h2, h3, h4, h5⟩ := h
  exact cell_of_heap h1.blk (h5 i hi)
theorem RowB.frozen (h : RowB b w d gc cap xs) (i : Nat) : w.frozen? ⟨gc, i, none⟩ = false := by
  obtain ⟨cur, h1, _⟩ := h
  exact frozen_of_heap h1.blk
theorem RowB.ints (h : RowB b w d gc cap xs) : IntsP (fun g => g < w.heap.size) w (.slice (some ⟨gc, 0, none⟩) xs.length cap) xs := by
  have hl := h.lt
  refine ⟨_, _, rfl, by obtain ⟨_, _, h2, _⟩ := h; exact h2, by obtain ⟨_, _, _, h3, _⟩ := h; exact h3, fun _ => ⟨gc, 0, rfl, hl, fun j hj => ?_⟩⟩
  have := h.cell hj
  rw [Nat.zero_add, Nat.mul_one]
  unfold rdInt
  rw [this, List.getD_eq_getElem?_getD, List.getElem?_eq_getElem hj]
  rfl
theorem RowB.set (h : RowB b w d gc cap xs) {i : Nat} (hi : i < xs.length) (y : Int) : RowB b (w.setCell ⟨gc, i, none⟩ (.int .i64 y)) d gc cap (xs.set i y) := by
  obtain ⟨cur, h1, h2, h3, h4, h5⟩ := h
  refine ⟨cur.setIfInBounds i (.int .i64 y), ⟨by rw [heap_setCell_same h1.blk], h1.off⟩, by rw [List.length_set]; exact h2, h3, by rw [List.length_set, Array.size_setIfInBounds]; exact h4, fun j hj => ?_⟩
  rw [List.length_set] at hj
  rw [getD_setI _ _ _ hi]
  by_cases e : i = j
  · subst e
    rw [if_pos rfl, Array.getElem?_setIfInBounds_self_of_lt (by omega)]
  · rw [if_neg (Ne.symm e), Array.getElem?_setIfInBounds_ne e]
    exact h5 j hj
theorem RowB.make (hm : DmAt w b d) {base : Nat} {v : Value} (hr : w'.ownsRow base 3 1 v xs.length (xs.map (Value.int .i64))) (h0 : 0 < xs.length) (hb : w.heap.size ≤ base) (hm' : DmAt w' b d) : ∃ gc cap, v = .slice (some ⟨gc, 0, none⟩) xs.length cap ∧ base ≤ gc ∧ RowB b w' d gc cap xs := by
  rcases hr.2 with ⟨_, h⟩ | ⟨g, cap, cur, rfl, h1, h2, h3, h4, h5, h6⟩
  · omega
  · refine ⟨g, cap, rfl, h1, cur, ⟨h2, fun hg => by have := hm.lt g hg; omega⟩, h3, h4, by omega, fun i hi => ?_⟩
    have h7 : (cur.toList.take (xs.length * 1))[i]? = some (.int .i64 (xs.getD i 0)) := by
      rw [h6, List.getElem?_map, List.getElem?_eq_getElem hi, List.getD_eq_getElem?_getD, List.getElem?_eq_getElem hi]
      rfl
    rw [Nat.mul_one, List.getElem?_take_of_lt hi] at h7
    simpa using h7
/-- keys that lie outside of the database -/
def KeysB (b : Nat) (w : World) (d : Dm) (v : Value) (ks : List QK) : Prop := I3s (fun g => g < w.heap.size ∧ g ∉ d.muts b) w v ks
theorem KeysB.new {v : Value} {ks : List QK} (h : KeysB b w d v ks) (hc : Chg [] w w') : KeysB b w' d v ks :=
  (I3s.kept (S := fun _ => False) h hc.p (fun _ _ h => h)).imp fun g hg => ⟨Nat.lt_of_lt_of_le hg.1 hc.size, hg.2⟩
theorem KeysB.after {v : Value} {ks : List QK} (h : KeysB b w d v ks) (ha : After b w w' d d') : KeysB b w' d' v ks :=
  (I3s.kept (S := fun g => g ∈ d.muts b) h ha.chg (fun g hg => hg.2)).imp fun g hg => ⟨Nat.lt_of_lt_of_le hg.1 ha.chg.size, fun hm => (ha.muts g hm).elim hg.2 fun h => by omega⟩
theorem KeysB.make {v : Value} {ks : List QK} (hm : DmAt w b d) (h : I3s (fun g => w.heap.size ≤ g ∧ g < w'.heap.size) w' v ks) : KeysB b w' d v ks :=
  h.imp fun g hg => ⟨hg.2, fun hh => by have := hm.lt g hh; omega⟩
/-- a database's answer whose value nobody looks at -/
def GotP (p : Prg) (wb : World) (b gi q : Nat) (w : World) (d : Dm) (row : List Int) (e : Ending) (w' : World) : Prop :=
  ∃ d' a n c, e = .returned (.tuple #[.agg #[.slice a n c, .string ⟨#[]⟩], .int .i64 0]) ∧ RunM p wb b gi w' d' row ∧ After b w w' d d' ∧ d'.pl = (upQ p (fun _ => false) d.pl (1, (q : Int), 0)).2.idle
theorem RunM.getP {p : Prg} {wb : World} {gi q : Nat} {row : List Int} (hp : PrgOk p) (hM : RunM p wb b gi w d row) {s' : PS} (hu : upQ p (fun _ => false) d.pl (1, (q : Int), 0) = (.ok (), s')) (hq : q < p.qs.length) :
    Calls Try.prog 19 #[.pointer (some ⟨b, 0, none⟩), i3v (1, (q : Int), 0)] w (GotP p wb b gi q w d row) := by
  refine (hM.db.get hp q hq).mono ?_
  rintro e w' ⟨d', hd, hpl, ha, hm⟩
  rw [hu] at hm
  simp only at hm
  obtain ⟨a, c, rfl, _⟩ := hm
  exact ⟨d', a, _, c, rfl, hM.after hd ha, ha, hpl⟩
end Go.Proofs.Ytdeodcomlakpaaa
