/- Plain ground of this seat's proofs: what a call may change ('Chg'), and maps as association lists ('MapAt'), over any program. -/
import Derived.WalkKit
import Derived.WalkSpells
import Derived.WalkLawsBesides
import Derived.Maps.Keyed
import Derived.Maps.RangeWalk
import Derived.Carry
import Derived.Lib.Hide
import Derived.Deep.Draws
namespace Go.Proofs.YticfigfipbcmhaaGreatDoor
open Go.RowKit Go.ChangeMaps Go.MapKept
open Go.Maps (Keyed)

/-! ### 1. what has changed -/
/-- Of the blocks that were there, those of 'S' alone may have changed. -/
structure Chg (S : List Nat) (w w' : World) : Prop where
  os : w'.os = w.os
  tape : w'.tape = w.tape
  output : w'.output = w.output
  size : w.heap.size ≤ w'.heap.size
  block : ∀ k, k < w.heap.size → k ∉ S → w'.heap[k]? = w.heap[k]?

theorem Chg.refl (S : List Nat) (w : World) : Chg S w w := ⟨rfl, rfl, rfl, Nat.le_refl _, fun _ _ _ => rfl⟩
theorem Chg.comp {S T : List Nat} {a b c : World} (h : Chg S a b) (k : Chg T b c) (hT : ∀ x ∈ T, x ∈ S ∨ a.heap.size ≤ x) : Chg S a c :=
  ⟨k.os.trans h.os, k.tape.trans h.tape, k.output.trans h.output, Nat.le_trans h.size k.size, fun i hi hn =>
    (k.block i (Nat.lt_of_lt_of_le hi h.size) (fun hm => (hT i hm).elim hn (fun hs => absurd hi (Nat.not_lt.2 hs)))).trans (h.block i hi hn)⟩
theorem Chg.trans {S : List Nat} {a b c : World} (h : Chg S a b) (k : Chg S b c) : Chg S a c := h.comp k fun _ hx => Or.inl hx
theorem Chg.mono {S T : List Nat} {a b : World} (h : Chg S a b) (hT : ∀ x ∈ S, x ∈ T) : Chg T a b := (Chg.refl T a).comp h fun x hx => Or.inl (hT x hx)
theorem Chg.nil {S : List Nat} {a b : World} (h : Chg [] a b) : Chg S a b := h.mono (by simp)
theorem Chg.new {S : List Nat} {a b c : World} (h : Chg S a b) (k : Chg [] b c) : Chg S a c := h.comp k (by simp)
theorem Chg.drew {S : List Nat} {a w : World} (h : Chg S a w) : Chg S a w.drew := ⟨h.os, h.tape, h.output, h.size, h.block⟩
theorem Chg.drewN {S : List Nat} {a w : World} (h : Chg S a w) (n : Nat) : Chg S a (w.drewN n) := ⟨h.os, h.tape, h.output, h.size, h.block⟩
theorem Chg.alloc {S : List Nat} {a w : World} (h : Chg S a w) (o : Obj) : Chg S a (w.alloc o) :=
  h.new ⟨rfl, rfl, rfl, by simp, fun k hk _ => Below.heap_alloc _ _ _ hk⟩
theorem Chg.setCell {S : List Nat} {a w : World} (h : Chg S a w) {p : Addr} (hp : p.block ∈ S ∨ a.heap.size ≤ p.block) (u : Value) : Chg S a (w.setCell p u) :=
  h.comp (T := [p.block]) ⟨rfl, rfl, rfl, by simp [World.setCell], fun k _ hn => Below.heap_setCell _ _ _ _ (by simpa using hn)⟩ (by simpa using hp)
theorem Chg.setBlock {S : List Nat} {a w : World} (h : Chg S a w) {b : Nat} (hp : b ∈ S ∨ a.heap.size ≤ b) (o : Obj) : Chg S a (ChangeMaps.setBlock w b o) :=
  h.comp (T := [b]) ⟨rfl, rfl, rfl, by simp [ChangeMaps.setBlock], fun k _ hn => by
    have : k ≠ b := by simpa using hn
    simp [ChangeMaps.setBlock, Ne.symm this]⟩ (by simpa using hp)
theorem Chg.grown {S : List Nat} {a w w' : World} {row : Option Nat} (h : Chg S a w) (hg : w.grownBy w' row) (hr : ∀ k, row = some k → k ∈ S ∨ a.heap.size ≤ k) : Chg S a w' :=
  h.comp (T := row.toList) ⟨hg.os, hg.tape, hg.output, hg.size, fun k hk hn => hg.block k hk (fun e => hn (by simp [← e]))⟩ (fun x hx => hr x (by simpa using hx))
theorem Chg.below {S : List Nat} {B : Nat} {a w : World} (h : Chg S a w) (hB : B ≤ a.heap.size) (hS : ∀ k ∈ S, B ≤ k) : Below B a w :=
  ⟨h.os, h.tape, h.output, h.size, fun k hk => h.block k (by omega) (fun hm => by have := hS k hm; omega)⟩
theorem Chg.of_below {a w : World} (h : Below a.heap.size a w) : Chg [] a w := ⟨h.os, h.tape, h.output, h.size, fun k hk _ => h.block k hk⟩
theorem Chg.cell {S : List Nat} {a w : World} (h : Chg S a w) {p : Addr} (hp : p.block < a.heap.size) (hn : p.block ∉ S) : w.cell? p = a.cell? p := World.cell?_of_block (w := a) (h.block p.block hp hn)
theorem Chg.frozen {S : List Nat} {a w : World} (h : Chg S a w) {p : Addr} (hp : p.block < a.heap.size) (hn : p.block ∉ S) : w.frozen? p = a.frozen? p := World.frozen?_of_block (w := a) (h.block p.block hp hn)

theorem lt_of_cell {w : World} {p : Addr} {v : Value} (h : w.cell? p = some v) : p.block < w.heap.size := by
  unfold World.cell? at h
  split at h
  · rename_i hb; exact (Array.getElem?_eq_some_iff.1 hb).1
  · cases h
theorem lt_of_obj {w : World} {b : Nat} {o : Obj} (h : w.heap[b]? = some o) : b < w.heap.size := (Array.getElem?_eq_some_iff.1 h).1

/-! ### slices of one-cell elements, read -/
/-- The slice v reads as the values vs; its array is a row of elements of type E. -/
def Sl (E : TypeId) (w : World) (v : Value) (vs : List Value) : Prop :=
  (v = .slice none 0 0 ∧ vs = []) ∨ ∃ g off cap c fr, v = .slice (some ⟨g, off, none⟩) vs.length cap ∧ vs.length ≤ cap ∧ cap ≤ maxLen ∧ w.heap[g]? = some (.cells c E fr) ∧ ∀ i (h : i < vs.length), c[off + i]? = some vs[i]
/-- Block k holds no row of elements of type E. -/
def NotE (E : TypeId) (w : World) (k : Nat) : Prop := ∀ c fr, w.heap[k]? ≠ some (.cells c E fr)
theorem Sl.kept {E : TypeId} {w w' : World} {v : Value} {vs : List Value} {S : List Nat} (h : Sl E w v vs) (hc : Chg S w w') (hS : ∀ k ∈ S, NotE E w k) : Sl E w' v vs := by
  rcases h with h | ⟨g, off, cap, c, fr, h1, h2, h3, h4, h5⟩
  · exact Or.inl h
  · exact Or.inr ⟨g, off, cap, c, fr, h1, h2, h3, (hc.block g (lt_of_obj h4) (fun hm => hS g hm c fr h4)).trans h4, h5⟩
theorem Sl.len {E : TypeId} {w : World} {v : Value} {vs : List Value} (h : Sl E w v vs) : vs.length ≤ maxLen := by
  rcases h with ⟨_, rfl⟩ | ⟨g, off, cap, c, fr, h1, h2, h3, h4, h5⟩
  · simp
  · omega
theorem cell_of_heap {w : World} {g i : Nat} {c : Array Value} {E : TypeId} {fr : Nat × Nat} {v : Value} (h : w.heap[g]? = some (.cells c E fr)) (hc : c[i]? = some v) : w.cell? ⟨g, i, none⟩ = some v := by
  simp [World.cell?, h, hc]
theorem frozen_of_heap {w : World} {g i : Nat} {c : Array Value} {E : TypeId} (h : w.heap[g]? = some (.cells c E (0, 0))) : w.frozen? ⟨g, i, none⟩ = false := by
  simp [World.frozen?, h]
theorem heap_setCell_same {w : World} {g i : Nat} {c : Array Value} {E : TypeId} {fr : Nat × Nat} (h : w.heap[g]? = some (.cells c E fr)) (v : Value) : (w.setCell ⟨g, i, none⟩ v).heap[g]? = some (.cells (c.setIfInBounds i v) E fr) := by
  simp [World.setCell, Array.getElem?_modify, h]
theorem NotE.of_chg {E : TypeId} {S : List Nat} {w w' : World} {k : Nat} (h : NotE E w k) (hc : Chg S w w') (hk : k < w.heap.size) (hn : k ∉ S) : NotE E w' k := fun c fr => by
  rw [hc.block k hk hn]; exact h c fr
theorem NotE.setCell {E : TypeId} {w : World} {k : Nat} (h : NotE E w k) (a : Addr) (u : Value) : NotE E (w.setCell a u) k := fun c fr => by
  simp only [World.setCell, Array.getElem?_modify]
  split
  · intro hm
    obtain ⟨o, ho, e⟩ := Option.map_eq_some_iff.1 hm
    split at e
    · rename_i c' E' fr'
      cases e
      exact h _ _ ho
    · exact h c fr (by rw [ho, e])
  · exact h c fr
theorem Sl.setCell {E : TypeId} {w : World} {v : Value} {vs : List Value} (h : Sl E w v vs) {a : Addr} (hn : NotE E w a.block) (u : Value) : Sl E (w.setCell a u) v vs :=
  h.kept ((Chg.refl [a.block] w).setCell (Or.inl (by simp)) u) (by simpa using hn)
theorem NotE.of_heap {E : TypeId} {w : World} {k : Nat} {o : Obj} (h : w.heap[k]? = some o) (ho : ∀ c fr, o ≠ .cells c E fr) : NotE E w k := fun c fr e => ho c fr (by rw [h] at e; exact Option.some.inj e)
theorem heap_drew (w : World) : w.drew.heap = w.heap := rfl
theorem heap_at (w : World) (o : Obj) (n : Nat) (h : n = w.heap.size) : (w.alloc o).heap[n]? = some o := by subst h; exact heap_alloc_new w o
theorem heap_past (w : World) (o : Obj) (n : Nat) (h : n < w.heap.size) : (w.alloc o).heap[n]? = w.heap[n]? := Below.heap_alloc w o n h
theorem heap_setCell_ne (w : World) (a : Addr) (u : Value) (n : Nat) (h : n ≠ a.block) : (w.setCell a u).heap[n]? = w.heap[n]? := Below.heap_setCell w a u n h
theorem cell_setBlock {w : World} {b : Nat} {o : Obj} {a : Addr} (h : a.block ≠ b) : (ChangeMaps.setBlock w b o).cell? a = w.cell? a :=
  World.cell?_of_block (by simp [ChangeMaps.setBlock, Ne.symm h])

/-! ### 2. association lists -/
section
variable {K : Type} [DecidableEq K] {V : Type}
def aget (es : List (K × V)) (x : K) : Option V := (es.find? fun p => decide (p.1 = x)).map (·.2)
def ups : List (K × V) → K → V → List (K × V)
  | [], x, v => [(x, v)]
  | p :: r, x, v => if p.1 = x then (x, v) :: r else p :: ups r x v
def adel (es : List (K × V)) (x : K) : List (K × V) := es.filter fun p => decide (p.1 ≠ x)
theorem aget_nil (x : K) : aget ([] : List (K × V)) x = none := rfl
theorem aget_cons (p : K × V) (r : List (K × V)) (x : K) : aget (p :: r) x = if p.1 = x then some p.2 else aget r x := by
  unfold aget
  by_cases h : p.1 = x <;> simp [h]
theorem aget_ups (es : List (K × V)) (x y : K) (v : V) : aget (ups es x v) y = if x = y then some v else aget es y := by
  induction es with
  | nil => simp [ups, aget_cons, aget_nil]
  | cons p r ih =>
    unfold ups
    by_cases h : p.1 = x
    · rw [if_pos h, aget_cons, aget_cons, h]
      by_cases hx : x = y <;> simp [hx]
    · rw [if_neg h, aget_cons, aget_cons, ih]
      by_cases hp : p.1 = y
      · have : x ≠ y := fun e => h (hp.trans e.symm)
        simp [hp, this]
      · simp [hp]
theorem aget_mem {es : List (K × V)} {x : K} {v : V} (h : aget es x = some v) : (x, v) ∈ es := by
  unfold aget at h
  obtain ⟨p, hp, rfl⟩ := Option.map_eq_some_iff.1 h
  have h1 := List.mem_of_find?_eq_some hp
  have h2 := List.find?_some hp
  simp at h2
  obtain ⟨a, b⟩ := p
  simp at h2
  subst h2
  exact h1
theorem aget_none {es : List (K × V)} {x : K} (h : aget es x = none) : ∀ p ∈ es, p.1 ≠ x := by
  intro p hp hx
  unfold aget at h
  rw [Option.map_eq_none_iff, List.find?_eq_none] at h
  exact absurd hx (by simpa using h p hp)
theorem aget_eq_none {es : List (K × V)} {x : K} (h : ∀ p ∈ es, p.1 ≠ x) : aget es x = none := by
  unfold aget
  rw [Option.map_eq_none_iff, List.find?_eq_none]
  intro p hp
  simpa using h p hp
theorem aget_of_mem {es : List (K × V)} (hd : (es.map (·.1)).Nodup) {x : K} {v : V} (h : (x, v) ∈ es) : aget es x = some v := by
  induction es with
  | nil => cases h
  | cons p r ih =>
    rw [List.map_cons, List.nodup_cons] at hd
    rw [aget_cons]
    rcases List.mem_cons.1 h with h | h
    · rw [← h]; simp
    · have : p.1 ≠ x := fun e => hd.1 (List.mem_map.2 ⟨(x, v), h, e.symm⟩)
      rw [if_neg this]
      exact ih hd.2 h
theorem aget_adel (es : List (K × V)) (x y : K) : aget (adel es x) y = if x = y then none else aget es y := by
  induction es with
  | nil => simp [adel, aget_nil]
  | cons p r ih =>
    unfold adel at ih ⊢
    rw [List.filter_cons]
    by_cases h : p.1 = x
    · simp only [h, ne_eq, not_true_eq_false, decide_false, Bool.false_eq_true, if_false, ih, aget_cons]
      by_cases hx : x = y <;> simp [hx]
    · simp only [ne_eq, h, not_false_eq_true, decide_true, if_true, aget_cons, ih]
      by_cases hp : p.1 = y
      · have : x ≠ y := fun e => h (hp.trans e.symm)
        simp [hp, this]
      · simp [hp]
theorem mem_ups {es : List (K × V)} {x : K} {v : V} {p : K × V} (h : p ∈ ups es x v) : p = (x, v) ∨ p ∈ es := by
  induction es with
  | nil => simpa [ups] using h
  | cons q r ih =>
    unfold ups at h
    split at h
    · rcases List.mem_cons.1 h with h | h
      · exact Or.inl h
      · exact Or.inr (List.mem_cons_of_mem _ h)
    · rcases List.mem_cons.1 h with h | h
      · exact Or.inr (by simp [h])
      · rcases ih h with h | h
        · exact Or.inl h
        · exact Or.inr (List.mem_cons_of_mem _ h)
theorem ups_none {es : List (K × V)} {x : K} {v : V} (h : ∀ p ∈ es, p.1 ≠ x) : ups es x v = es ++ [(x, v)] := by
  induction es with
  | nil => rfl
  | cons q r ih =>
    unfold ups
    rw [if_neg (h q (by simp)), ih (fun p hp => h p (by simp [hp]))]
    rfl
theorem length_ups_le (es : List (K × V)) (x : K) (v : V) : (ups es x v).length ≤ es.length + 1 := by
  induction es with
  | nil => simp [ups]
  | cons q r ih =>
    unfold ups
    split
    · simp
    · simp only [List.length_cons]; omega
end

/-! ### 3. a map's block as an association list -/
section
variable {P : Program} {K : Type} {kt : TypeId} {ek : K → Value}
/-- A key that the map may hold: it reads as a key of its type. -/
def KeyOk (P : Program) (kt : TypeId) (v : Value) : Prop := ∃ l, keyOf P kt v = some l
/-- Block b of w is a map with the entries 'es', in the order in which they came. -/
def MapAt (P : Program) (kt : TypeId) (ek : K → Value) (w : World) (b : Nat) (es : List (K × Value)) : Prop :=
  ∃ arr clock, w.heap[b]? = some (.map arr clock) ∧ arr.toList.map (fun e => (e.key, e.val)) = es.map (fun p => (ek p.1, p.2)) ∧ Stamped arr clock ∧ ∀ p ∈ es, KeyOk P kt (ek p.1)
theorem MapAt.lt {w : World} {b : Nat} {es : List (K × Value)} (h : MapAt P kt ek w b es) : b < w.heap.size := by
  obtain ⟨arr, clock, hb, _⟩ := h
  exact lt_of_obj hb
theorem MapAt.of_block {w w' : World} {b : Nat} {es : List (K × Value)} (h : MapAt P kt ek w b es) (hb : w'.heap[b]? = w.heap[b]?) : MapAt P kt ek w' b es := by
  obtain ⟨arr, clock, h1, h2⟩ := h
  exact ⟨arr, clock, hb.trans h1, h2⟩
theorem MapAt.kept {w w' : World} {b : Nat} {es : List (K × Value)} {S : List Nat} (h : MapAt P kt ek w b es) (hc : Chg S w w') (hb : b ∉ S) : MapAt P kt ek w' b es := h.of_block (hc.block b h.lt hb)
theorem MapAt.made (P : Program) (kt : TypeId) (ek : K → Value) (w : World) : MapAt P kt ek (w.alloc (.map #[] 0)) w.heap.size [] :=
  ⟨#[], 0, (MapKept.heap_alloc w _).1, by simp, stamped_empty 0, by simp⟩
theorem MapAt.nodup {w : World} {b : Nat} {es : List (K × Value)} (h : MapAt P kt ek w b es) : (es.map (·.1)).Nodup := by
  obtain ⟨arr, clock, _, he, hs, _⟩ := h
  have h1 := hs.2.2
  have e1 : arr.toList.map (·.key) = (es.map (·.1)).map ek := by
    have := congrArg (List.map Prod.fst) he
    simpa [List.map_map, Function.comp_def] using this
  rw [e1] at h1
  exact (List.pairwise_map.1 h1).imp fun hne e => hne (congrArg ek e)

variable [DecidableEq K]
/-- what the look-up finds -/
theorem MapAt.found (hk : Keyed P kt) (hinj : ∀ x y, ek x = ek y → x = y) {w : World} {b : Nat} {es : List (K × Value)} (h : MapAt P kt ek w b es) {x : K} (hx : KeyOk P kt (ek x)) (u : World) :
    ∃ arr clock, w.heap[b]? = some (.map arr clock) ∧ (Instr.checkKey arr.isEmpty 10000 kt (ek x)).run P u = .ok () u ∧
      ((aget es x = none ∧ (Instr.findKey kt (ek x) arr.toList).run P u = .ok none u) ∨ ∃ j v, aget es x = some v ∧ (Instr.findKey kt (ek x) arr.toList).run P u = .ok (some (j, v)) u) := by
  obtain ⟨arr, clock, hb, he, hs, hok⟩ := h
  obtain ⟨l, hl⟩ := hx
  have hkeys : ∀ e ∈ arr.toList, ∃ l, keyOf P kt e.key = some l := by
    intro e hm
    have h1 : (e.key, e.val) ∈ es.map (fun p => (ek p.1, p.2)) := he ▸ List.mem_map.2 ⟨e, hm, rfl⟩
    obtain ⟨p, hp, e1⟩ := List.mem_map.1 h1
    obtain ⟨l', hl'⟩ := hok p hp
    simp only [Prod.mk.injEq] at e1
    exact ⟨l', e1.1 ▸ hl'⟩
  have hnd : (es.map (·.1)).Nodup := MapAt.nodup ⟨arr, clock, hb, he, hs, hok⟩
  refine ⟨arr, clock, hb, hk.check u _ hl, ?_⟩
  rcases hk.find u hl arr.toList hkeys with ⟨h1, h2⟩ | ⟨j, e, h1, h2, h3⟩
  · refine Or.inl ⟨aget_eq_none fun p hp e1 => ?_, h1⟩
    have h4 : (ek p.1, p.2) ∈ arr.toList.map (fun e => (e.key, e.val)) := he ▸ List.mem_map.2 ⟨p, hp, rfl⟩
    obtain ⟨e, hm, e2⟩ := List.mem_map.1 h4
    simp only [Prod.mk.injEq] at e2
    exact h2 e hm (by rw [e2.1, e1])
  · refine Or.inr ⟨j, e.val, ?_, h1⟩
    have h1 : (e.key, e.val) ∈ es.map (fun p => (ek p.1, p.2)) := he ▸ List.mem_map.2 ⟨e, List.mem_of_getElem? h2, rfl⟩
    obtain ⟨p, hp, e1⟩ := List.mem_map.1 h1
    simp only [Prod.mk.injEq] at e1
    have : p.1 = x := hinj _ _ (by rw [e1.1, h3])
    exact aget_of_mem hnd (by rw [← this, ← e1.2]; exact hp)

/-- 'm[k]', 'v, ok := m[k]' -/
theorem MapAt.lookup (hk : Keyed P kt) (hinj : ∀ x y, ek x = ek y → x = y) {t et : TypeId} (ht : P.underlying t = some (.map kt et)) {w : World} {b : Nat} {es : List (K × Value)} (h : MapAt P kt ek w b es) {x : K} (hx : KeyOk P kt (ek x))
    {z : Value} (hz : (zeroValue et).run P w = .ok z w) (c : Bool) :
    (Instr.lookup t (.map (some b)) (ek x) c).run P w = .ok (if c then .tuple #[(aget es x).getD z, .bool (aget es x).isSome] else (aget es x).getD z) w := by
  obtain ⟨arr, clock, hb, h1, h2⟩ := h.found hk hinj hx w
  rcases h2 with ⟨h3, h4⟩ | ⟨j, v, h3, h4⟩
  · simp [Instr.lookup, run_underlying ht, MapKept.run_getObj_map hb, h1, h4, hz, h3, Result.andThen]
  · simp [Instr.lookup, run_underlying ht, MapKept.run_getObj_map hb, h1, h4, h3, Result.andThen]

theorem modify_entries (l : List MapEntry) (j : Nat) (e0 : MapEntry) (hj : l[j]? = some e0) (es : List (K × Value)) (hinj : ∀ x y, ek x = ek y → x = y) (he : l.map (fun e => (e.key, e.val)) = es.map (fun p => (ek p.1, p.2))) (hnd : (es.map (·.1)).Nodup) (x : K) (hx : e0.key = ek x) (v : Value) :
    (l.set j { e0 with key := ek x, val := v }).map (fun e => (e.key, e.val)) = (ups es x v).map (fun p => (ek p.1, p.2)) := by
  induction l generalizing j es with
  | nil => simp at hj
  | cons e r ih =>
    cases es with
    | nil => simp at he
    | cons p s =>
      simp only [List.map_cons, List.cons.injEq, Prod.mk.injEq] at he
      cases j with
      | zero =>
        simp only [List.getElem?_cons_zero, Option.some.injEq] at hj
        subst hj
        have : p.1 = x := hinj _ _ (he.1.1.symm.trans hx)
        simp [ups, this, he.2]
      | succ j =>
        simp only [List.getElem?_cons_succ] at hj
        rw [List.map_cons, List.nodup_cons] at hnd
        have hne : p.1 ≠ x := by
          intro e1
          have h1 : (e0.key, e0.val) ∈ s.map (fun p => (ek p.1, p.2)) := he.2 ▸ List.mem_map.2 ⟨e0, List.mem_of_getElem? hj, rfl⟩
          obtain ⟨q, hq, e2⟩ := List.mem_map.1 h1
          simp only [Prod.mk.injEq] at e2
          have : q.1 = x := hinj _ _ (by rw [e2.1, hx])
          exact hnd.1 (List.mem_map.2 ⟨q, hq, by rw [this, e1]⟩)
        simp only [List.set_cons_succ, List.map_cons, ups, if_neg hne, List.cons.injEq, Prod.mk.injEq]
        exact ⟨he.1, ih j hj s he.2 hnd.2⟩

/-- 'm[k] = v': the new world is the old one with another object in the map's block. -/
theorem MapAt.update (hk : Keyed P kt) (hinj : ∀ x y, ek x = ek y → x = y) {t et : TypeId} (ht : P.underlying t = some (.map kt et)) {w : World} {b : Nat} {es : List (K × Value)} (h : MapAt P kt ek w b es) {x : K} (hx : KeyOk P kt (ek x)) (v : Value) :
    ∃ o, (Instr.mapUpdate t (.map (some b)) (ek x) v).run P w = .ok () (setBlock w b o) ∧ MapAt P kt ek (setBlock w b o) b (ups es x v) := by
  have hnd := h.nodup
  obtain ⟨arr, clock, hb, he, hs, hok⟩ := h
  obtain ⟨l, hl⟩ := hx
  have hkeys : ∀ e ∈ arr.toList, ∃ l, keyOf P kt e.key = some l := by
    intro e hm
    have h1 : (e.key, e.val) ∈ es.map (fun p => (ek p.1, p.2)) := he ▸ List.mem_map.2 ⟨e, hm, rfl⟩
    obtain ⟨p, hp, e1⟩ := List.mem_map.1 h1
    obtain ⟨l', hl'⟩ := hok p hp
    simp only [Prod.mk.injEq] at e1
    exact ⟨l', e1.1 ▸ hl'⟩
  have hok' : ∀ p ∈ ups es x v, KeyOk P kt (ek p.1) := by
    intro p hp
    rcases mem_ups hp with rfl | hp
    · exact ⟨l, hl⟩
    · exact hok p hp
  rcases hk.find w hl arr.toList hkeys with ⟨h1, h2⟩ | ⟨j, e0, h1, h2, h3⟩
  · refine ⟨.map (arr.push ⟨ek x, v, clock⟩) (clock + 1), by simp [Instr.mapUpdate, run_underlying ht, MapKept.run_getObj_map hb, hk.check w false hl, h1, MapKept.run_setObj_map _ hb, Result.andThen, setBlock], _, _, heap_setBlock_same hb _, ?_, stamped_push hs h2, hok'⟩
    have : ∀ p ∈ es, p.1 ≠ x := by
      intro p hp e1
      have h4 : (ek p.1, p.2) ∈ arr.toList.map (fun e => (e.key, e.val)) := he ▸ List.mem_map.2 ⟨p, hp, rfl⟩
      obtain ⟨e, hm, e2⟩ := List.mem_map.1 h4
      simp only [Prod.mk.injEq] at e2
      exact h2 e hm (by rw [e2.1, e1])
    rw [ups_none this]
    simp [he]
  · have hj : arr[j]? = some e0 := by simpa using h2
    refine ⟨.map (arr.modify j fun e' => { e' with key := ek x, val := v }) clock, by simp [Instr.mapUpdate, run_underlying ht, MapKept.run_getObj_map hb, hk.check w false hl, h1, hj, h3, hk.stays w hl, MapKept.run_setObj_map _ hb, Result.andThen, setBlock], _, _, heap_setBlock_same hb _, ?_, ?_, hok'⟩
    · rw [Array.toList_modify, modify_eq_set _ _ _ _ h2]
      exact modify_entries arr.toList j e0 h2 es hinj he hnd x h3 v
    · exact stamped_modify hs _ _ (fun _ _ => rfl) (fun e' _ he' => by rw [hj] at he'; cases he'; exact h3.symm)
end
end Go.Proofs.YticfigfipbcmhaaGreatDoor
