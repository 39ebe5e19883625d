/- Part of the proof of topCrashedLaw_holds. -/
import Derived.WalkKit
import Derived.WalkSpells
import Derived.WalkLawsBesides
import Derived.Maps.Keyed
import Derived.Maps.RangeWalk
import Derived.Carry
import Derived.Lib.Hide
import Derived.Deep.Draws
namespace Go.Proofs.YtjlknaahpjiibaaGreatDoor
open List (getElem_toArray getElem_cons_zero getElem_cons_succ setIfInBounds_toArray set_cons_zero set_cons_succ)
open Go.RowKit Go.ChangeMaps Go.MapKept
open Go.Maps (Keyed)
structure Chg (S : List Nat) (w w' : World) : Prop where
 os : w'.os = w.os
 tape : w'.tape = w.tape
 output : w'.output = w.output
 size : w.heap.size ≤ w'.heap.size
 block : ∀ k, k < w.heap.size → k ∉ S → w'.heap[k]? = w.heap[k]?
theorem Chg.refl (S : List Nat) (w : World) : Chg S w w := ⟨rfl, rfl, rfl, Nat.le_refl _, fun _ _ _ => rfl⟩
theorem Chg.comp {S T : List Nat} {a b c : World} (h : Chg S a b) (k : Chg T b c) (hT : ∀ x ∈ T, x ∈ S ∨ a.heap.size ≤ x) : Chg S a c :=
 ⟨k.os.trans h.os, k.tape.trans h.tape, k.output.trans h.output, Nat.le_trans h.size k.size, fun i hi hn =>
  (k.block i (Nat.lt_of_lt_of_le hi h.size) (fun hm => (hT i hm).elim hn (fun hs => absurd hi (Nat.not_lt.2 hs)))).trans (h.block i hi hn)⟩
theorem Chg.trans {S : List Nat} {a b c : World} (h : Chg S a b) (k : Chg S b c) : Chg S a c := h.comp k fun _ hx => Or.inl hx
theorem Chg.mono {S T : List Nat} {a b : World} (h : Chg S a b) (hT : ∀ x ∈ S, x ∈ T) : Chg T a b := (Chg.refl T a).comp h fun x hx => Or.inl (hT x hx)
theorem Chg.nil {S : List Nat} {a b : World} (h : Chg [] a b) : Chg S a b := h.mono (by simp)
theorem Chg.new {S : List Nat} {a b c : World} (h : Chg S a b) (k : Chg [] b c) : Chg S a c := h.comp k (by simp)
theorem Chg.drew {S : List Nat} {a w : World} (h : Chg S a w) : Chg S a w.drew := ⟨h.os, h.tape, h.output, h.size, h.block⟩
theorem Chg.drewN {S : List Nat} {a w : World} (h : Chg S a w) (n : Nat) : Chg S a (w.drewN n) := ⟨h.os, h.tape, h.output, h.size, h.block⟩
theorem Chg.alloc {S : List Nat} {a w : World} (h : Chg S a w) (o : Obj) : Chg S a (w.alloc o) :=
 h.new ⟨rfl, rfl, rfl, by simp, fun k hk _ => Below.heap_alloc _ _ _ hk⟩
theorem Chg.setCell {S : List Nat} {a w : World} (h : Chg S a w) {p : Addr} (hp : p.block ∈ S ∨ a.heap.size ≤ p.block) (u : Value) : Chg S a (w.setCell p u) :=
 h.comp (T := [p.block]) ⟨rfl, rfl, rfl, by simp [World.setCell], fun k _ hn => Below.heap_setCell _ _ _ _ (by simpa using hn)⟩ (by simpa using hp)
theorem Chg.setBlock {S : List Nat} {a w : World} (h : Chg S a w) {b : Nat} (hp : b ∈ S ∨ a.heap.size ≤ b) (o : Obj) : Chg S a (ChangeMaps.setBlock w b o) :=
 h.comp (T := [b]) ⟨rfl, rfl, rfl, by simp [ChangeMaps.setBlock], fun k _ hn => by
  have : k ≠ b := by simpa using hn
  simp [ChangeMaps.setBlock, Ne.symm this]⟩ (by simpa using hp)
theorem Chg.grown {S : List Nat} {a w w' : World} {row : Option Nat} (h : Chg S a w) (hg : w.grownBy w' row) (hr : ∀ k, row = some k → k ∈ S ∨ a.heap.size ≤ k) : Chg S a w' :=
 h.comp (T := row.toList) ⟨hg.os, hg.tape, hg.output, hg.size, fun k hk hn => hg.block k hk (fun e => hn (by simp [← e]))⟩ (fun x hx => hr x (by simpa using hx))
theorem Chg.below {S : List Nat} {B : Nat} {a w : World} (h : Chg S a w) (hB : B ≤ a.heap.size) (hS : ∀ k ∈ S, B ≤ k) : Below B a w :=
 ⟨h.os, h.tape, h.output, h.size, fun k hk => h.block k (by omega) (fun hm => by have := hS k hm; omega)⟩
theorem Chg.of_below {a w : World} (h : Below a.heap.size a w) : Chg [] a w := ⟨h.os, h.tape, h.output, h.size, fun k hk _ => h.block k hk⟩
theorem Chg.cell {S : List Nat} {a w : World} (h : Chg S a w) {p : Addr} (hp : p.block < a.heap.size) (hn : p.block ∉ S) : w.cell? p = a.cell? p := World.cell?_of_block (w := a) (h.block p.block hp hn)
theorem Chg.frozen {S : List Nat} {a w : World} (h : Chg S a w) {p : Addr} (hp : p.block < a.heap.size) (hn : p.block ∉ S) : w.frozen? p = a.frozen? p := World.frozen?_of_block (w := a) (h.block p.block hp hn)
theorem lt_of_cell {w : World} {p : Addr} {v : Value} (h : w.cell? p = some v) : p.block < w.heap.size := by
 unfold World.cell? at h
 split at h
 · rename_i hb; exact (Array.getElem?_eq_some_iff.1 hb).1
 · cases h
theorem lt_of_obj {w : World} {b : Nat} {o : Obj} (h : w.heap[b]? = some o) : b < w.heap.size := (Array.getElem?_eq_some_iff.1 h).1
def NotE (E : TypeId) (w : World) (k : Nat) : Prop := ∀ c fr, w.heap[k]? ≠ some (.cells c E fr)
theorem cell_of_heap {w : World} {g i : Nat} {c : Array Value} {E : TypeId} {fr : Nat × Nat} {v : Value} (h : w.heap[g]? = some (.cells c E fr)) (hc : c[i]? = some v) : w.cell? ⟨g, i, none⟩ = some v := by
 simp [World.cell?, h, hc]
theorem frozen_of_heap {w : World} {g i : Nat} {c : Array Value} {E : TypeId} (h : w.heap[g]? = some (.cells c E (0, 0))) : w.frozen? ⟨g, i, none⟩ = false := by
 simp [World.frozen?, h]
theorem heap_setCell_same {w : World} {g i : Nat} {c : Array Value} {E : TypeId} {fr : Nat × Nat} (h : w.heap[g]? = some (.cells c E fr)) (v : Value) : (w.setCell ⟨g, i, none⟩ v).heap[g]? = some (.cells (c.setIfInBounds i v) E fr) := by
 simp [World.setCell, Array.getElem?_modify, h]
theorem heap_at (w : World) (o : Obj) (n : Nat) (h : n = w.heap.size) : (w.alloc o).heap[n]? = some o := by subst h; exact heap_alloc_new w o
theorem heap_past (w : World) (o : Obj) (n : Nat) (h : n < w.heap.size) : (w.alloc o).heap[n]? = w.heap[n]? := Below.heap_alloc w o n h
theorem heap_setCell_ne (w : World) (a : Addr) (u : Value) (n : Nat) (h : n ≠ a.block) : (w.setCell a u).heap[n]? = w.heap[n]? := Below.heap_setCell w a u n h
theorem cell_setBlock {w : World} {b : Nat} {o : Obj} {a : Addr} (h : a.block ≠ b) : (ChangeMaps.setBlock w b o).cell? a = w.cell? a :=
 World.cell?_of_block (by simp [ChangeMaps.setBlock, Ne.symm h])
section
variable {K : Type} [DecidableEq K] {V : Type}
def aget (es : List (K × V)) (x : K) : Option V := (es.find? fun p => decide (p.1 = x)).map (·.2)
def ups : List (K × V) → K → V → List (K × V)
 | [], x, v => [(x, v)]
 | p :: r, x, v => if p.1 = x then (x, v) :: r else p :: ups r x v
def adel (es : List (K × V)) (x : K) : List (K × V) := es.filter fun p => decide (p.1 ≠ x)
theorem aget_nil (x : K) : aget ([] : List (K × V)) x = none := rfl
theorem aget_cons (p : K × V) (r : List (K × V)) (x : K) : aget (p :: r) x = if p.1 = x then some p.2 else aget r x := by
 unfold aget
 by_cases h : p.1 = x <;> simp [h]
theorem aget_ups (es : List (K × V)) (x y : K) (v : V) : aget (ups es x v) y = if x = y then some v else aget es y := by
 induction es with
 | nil => simp [ups, aget_cons, aget_nil]
 | cons p r ih =>
   unfold ups
   by_cases h : p.1 = x
   · rw [if_pos h, aget_cons, aget_cons, h]
     by_cases hx : x = y <;> simp [hx]
   · rw [if_neg h, aget_cons, aget_cons, ih]
     by_cases hp : p.1 = y
     · have : x ≠ y := fun e => h (hp.trans e.symm)
       simp [hp, this]
     · simp [hp]
theorem aget_mem {es : List (K × V)} {x : K} {v : V} (h : aget es x = some v) : (x, v) ∈ es := by
 unfold aget at h
 obtain ⟨p, hp, rfl⟩ := Option.map_eq_some_iff.1 h
 have h1 := List.mem_of_find?_eq_some hp
 have h2 := List.find?_some hp
 simp at h2
 obtain ⟨a, b⟩ := p
 simp at h2
 subst h2
 exact h1
theorem aget_eq_none {es : List (K × V)} {x : K} (h : ∀ p ∈ es, p.1 ≠ x) : aget es x = none := by
 unfold aget
 rw [Option.map_eq_none_iff, List.find?_eq_none]
 intro p hp
 simpa using h p hp
theorem aget_of_mem {es : List (K × V)} (hd : (es.map (·.1)).Nodup) {x : K} {v : V} (h : (x, v) ∈ es) : aget es x = some v := by
 induction es with
 | nil => cases h
 | cons p r ih =>
   rw [List.map_cons, List.nodup_cons] at hd
   rw [aget_cons]
   rcases List.mem_cons.1 h with h | h
   · rw [← h]; simp
   · have : p.1 ≠ x := fun e => hd.1 (List.mem_map.2 ⟨(x, v), h, e.symm⟩)
     rw [if_neg this]
     exact ih hd.2 h
theorem aget_adel (es : List (K × V)) (x y : K) : aget (adel es x) y = if x = y then none else aget es y := by
 induction es with
 | nil => simp [adel, aget_nil]
 | cons p r ih =>
   unfold adel at ih ⊢
   rw [List.filter_cons]
   by_cases h : p.1 = x
   · simp only [h, ne_eq, not_true_eq_false, decide_false, Bool.false_eq_true, if_false, ih, aget_cons]
     by_cases hx : x = y <;> simp [hx]
   · simp only [ne_eq, h, not_false_eq_true, decide_true, if_true, aget_cons, ih]
     by_cases hp : p.1 = y
     · have : x ≠ y := fun e => h (hp.trans e.symm)
       simp [hp, this]
     · simp [hp]
theorem mem_ups {es : List (K × V)} {x : K} {v : V} {p : K × V} (h : p ∈ ups es x v) : p = (x, v) ∨ p ∈ es := by
 induction es with
 | nil => simpa [ups] using h
 | cons q r ih =>
   unfold ups at h
   split at h
   · rcases List.mem_cons.1 h with h | h
     · exact Or.inl h
     · exact Or.inr (List.mem_cons_of_mem _ h)
   · rcases List.mem_cons.1 h with h | h
     · exact Or.inr (by simp [h])
     · rcases ih h with h | h
       · exact Or.inl h
       · exact Or.inr (List.mem_cons_of_mem _ h)
theorem ups_none {es : List (K × V)} {x : K} {v : V} (h : ∀ p ∈ es, p.1 ≠ x) : ups es x v = es ++ [(x, v)] := by
 induction es with
 | nil => rfl
 | cons q r ih =>
   unfold ups
   rw [if_neg (h q (by simp)), ih (fun p hp => h p (by simp [hp]))]
   rfl
theorem length_ups_le (es : List (K × V)) (x : K) (v : V) : (ups es x v).length ≤ es.length + 1 := by
 induction es with
 | nil => simp [ups]
 | cons q r ih =>
   unfold ups
   split
   · simp
   · simp only [List.length_cons]; omega
end
section
variable {P : Program} {K : Type} {kt : TypeId} {ek : K → Value}
def KeyOk (P : Program) (kt : TypeId) (v : Value) : Prop := ∃ l, keyOf P kt v = some l
def MapAt (P : Program) (kt : TypeId) (ek : K → Value) (w : World) (b : Nat) (es : List (K × Value)) : Prop :=
 ∃ arr clock, w.heap[b]? = some (.map arr clock) ∧ arr.toList.map (fun e => (e.key, e.val)) = es.map (fun p => (ek p.1, p.2)) ∧ Stamped arr clock ∧ ∀ p ∈ es, KeyOk P kt (ek p.1)
theorem MapAt.lt {w : World} {b : Nat} {es : List (K × Value)} (h : MapAt P kt ek w b es) : b < w.heap.size := by
 obtain ⟨arr, clock, hb, _⟩ := h
 exact lt_of_obj hb
theorem MapAt.of_block {w w' : World} {b : Nat} {es : List (K × Value)} (h : MapAt P kt ek w b es) (hb : w'.heap[b]? = w.heap[b]?) : MapAt P kt ek w' b es := by
 obtain ⟨arr, clock, h1, h2⟩ := h
 exact ⟨arr, clock, hb.trans h1, h2⟩
theorem MapAt.kept {w w' : World} {b : Nat} {es : List (K × Value)} {S : List Nat} (h : MapAt P kt ek w b es) (hc : Chg S w w') (hb : b ∉ S) : MapAt P kt ek w' b es := h.of_block (hc.block b h.lt hb)
theorem MapAt.made (P : Program) (kt : TypeId) (ek : K → Value) (w : World) : MapAt P kt ek (w.alloc (.map #[] 0)) w.heap.size [] :=
 ⟨#[], 0, (MapKept.heap_alloc w _).1, by simp, stamped_empty 0, by simp⟩
theorem MapAt.nodup {w : World} {b : Nat} {es : List (K × Value)} (h : MapAt P kt ek w b es) : (es.map (·.1)).Nodup := by
 obtain ⟨arr, clock, _, he, hs, _⟩ := h
 have h1 := hs.2.2
 have e1 : arr.toList.map (·.key) = (es.map (·.1)).map ek := by
  have := congrArg (List.map Prod.fst) he
  simpa [List.map_map, Function.comp_def] using this
 rw [e1] at h1
 exact (List.pairwise_map.1 h1).imp fun hne e => hne (congrArg ek e)
variable [DecidableEq K]
theorem MapAt.found (hk : Keyed P kt) (hinj : ∀ x y, ek x = ek y → x = y) {w : World} {b : Nat} {es : List (K × Value)} (h : MapAt P kt ek w b es) {x : K} (hx : KeyOk P kt (ek x)) (u : World) :
 ∃ arr clock, w.heap[b]? = some (.map arr clock) ∧ (Instr.checkKey arr.isEmpty 10000 kt (ek x)).run P u = .ok () u ∧
  ((aget es x = none ∧ (Instr.findKey kt (ek x) arr.toList).run P u = .ok none u) ∨ ∃ j v, aget es x = some v ∧ (Instr.findKey kt (ek x) arr.toList).run P u = .ok (some (j, v)) u) := by
 obtain ⟨arr, clock, hb, he, hs, hok⟩ := h
 obtain ⟨l, hl⟩ := hx
 have hkeys : ∀ e ∈ arr.toList, ∃ l, keyOf P kt e.key = some l := by
  intro e hm
  have h1 : (e.key, e.val) ∈ es.map (fun p => (ek p.1, p.2)) := he ▸ List.mem_map.2 ⟨e, hm, rfl⟩
  obtain ⟨p, hp, e1⟩ := List.mem_map.1 h1
  obtain ⟨l', hl'⟩ := hok p hp
  simp only [Prod.mk.injEq] at e1
  exact ⟨l', e1.1 ▸ hl'⟩
 have hnd : (es.map (·.1)).Nodup := MapAt.nodup ⟨arr, clock, hb, he, hs, hok⟩
 refine ⟨arr, clock, hb, hk.check u _ hl, ?_⟩
 rcases hk.find u hl arr.toList hkeys with ⟨h1, h2⟩ | ⟨j, e, h1, h2, h3⟩
 · refine Or.inl ⟨aget_eq_none fun p hp e1 => ?_, h1⟩
   have h4 : (ek p.1, p.2) ∈ arr.toList.map (fun e => (e.key, e.val)) := he ▸ List.mem_map.2 ⟨p, hp, rfl⟩
   obtain ⟨e, hm, e2⟩ := List.mem_map.1 h4
   simp only [Prod.mk.injEq] at e2
   exact h2 e hm (by rw [e2.1, e1])
 · refine Or.inr ⟨j, e.val, ?_, h1⟩
   have h1 : (e.key, e.val) ∈ es.map (fun p => (ek p.1, p.2)) := he ▸ List.mem_map.2 ⟨e, List.mem_of_getElem? h2, rfl⟩
   obtain ⟨p, hp, e1⟩ := List.mem_map.1 h1
   simp only [Prod.mk.injEq] at e1
   have : p.1 = x := hinj _ _ (by rw [e1.1, h3])
   exact aget_of_mem hnd (by rw [← this, ← e1.2]; exact hp)
theorem MapAt.lookup (hk : Keyed P kt) (hinj : ∀ x y, ek x = ek y → x = y) {t et : TypeId} (ht : P.underlying t = some (.map kt et)) {w : World} {b : Nat} {es : List (K × Value)} (h : MapAt P kt ek w b es) {x : K} (hx : KeyOk P kt (ek x))
 {z : Value} (hz : (zeroValue et).run P w = .ok z w) (c : Bool) :
 (Instr.lookup t (.map (some b)) (ek x) c).run P w = .ok (if c then .tuple #[(aget es x).getD z, .bool (aget es x).isSome] else (aget es x).getD z) w := by
 obtain ⟨arr, clock, hb, h1, h2⟩ := h.found hk hinj hx w
 rcases h2 with ⟨h3, h4⟩ | ⟨j, v, h3, h4⟩
 · simp [Instr.lookup, run_underlying ht, MapKept.run_getObj_map hb, h1, h4, hz, h3, Result.andThen]
 · simp [Instr.lookup, run_underlying ht, MapKept.run_getObj_map hb, h1, h4, h3, Result.andThen]
theorem modify_entries (l : List MapEntry) (j : Nat) (e0 : MapEntry) (hj : l[j]? = some e0) (es : List (K × Value)) (hinj : ∀ x y, ek x = ek y → x = y) (he : l.map (fun e => (e.key, e.val)) = es.map (fun p => (ek p.1, p.2))) (hnd : (es.map (·.1)).Nodup) (x : K) (hx : e0.key = ek x) (v : Value) :
 (l.set j { e0 with key := ek x, val := v }).map (fun e => (e.key, e.val)) = (ups es x v).map (fun p => (ek p.1, p.2)) := by
 induction l generalizing j es with
 | nil => simp at hj
 | cons e r ih =>
   cases es with
   | nil => simp at he
   | cons p s =>
     simp only [List.map_cons, List.cons.injEq, Prod.mk.injEq] at he
     cases j with
     | zero =>
       simp only [List.getElem?_cons_zero, Option.some.injEq] at hj
       subst hj
       have : p.1 = x := hinj _ _ (he.1.1.symm.trans hx)
       simp [ups, this, he.2]
     | succ j =>
       simp only [List.getElem?_cons_succ] at hj
       rw [List.map_cons, List.nodup_cons] at hnd
       have hne : p.1 ≠ x := by
        intro e1
        have h1 : (e0.key, e0.val) ∈ s.map (fun p => (ek p.1, p.2)) := he.2 ▸ List.mem_map.2 ⟨e0, List.mem_of_getElem? hj, rfl⟩
        obtain ⟨q, hq, e2⟩ := List.mem_map.1 h1
        simp only [Prod.mk.injEq] at e2
        have : q.1 = x := hinj _ _ (by rw [e2.1, hx])
        exact hnd.1 (List.mem_map.2 ⟨q, hq, by rw [this, e1]⟩)
       simp only [set_cons_succ, List.map_cons, ups, if_neg hne, List.cons.injEq, Prod.mk.injEq]
       exact ⟨he.1, ih j hj s he.2 hnd.2⟩
theorem MapAt.update (hk : Keyed P kt) (hinj : ∀ x y, ek x = ek y → x = y) {t et : TypeId} (ht : P.underlying t = some (.map kt et)) {w : World} {b : Nat} {es : List (K × Value)} (h : MapAt P kt ek w b es) {x : K} (hx : KeyOk P kt (ek x)) (v : Value) :
 ∃ o, (Instr.mapUpdate t (.map (some b)) (ek x) v).run P w = .ok () (setBlock w b o) ∧ MapAt P kt ek (setBlock w b o) b (ups es x v) := by
 have hnd := h.nodup
 obtain ⟨arr, clock, hb, he, hs, hok⟩ := h
 obtain ⟨l, hl⟩ := hx
 have hkeys : ∀ e ∈ arr.toList, ∃ l, keyOf P kt e.key = some l := by
  intro e hm
  have h1 : (e.key, e.val) ∈ es.map (fun p => (ek p.1, p.2)) := he ▸ List.mem_map.2 ⟨e, hm, rfl⟩
  obtain ⟨p, hp, e1⟩ := List.mem_map.1 h1
  obtain ⟨l', hl'⟩ := hok p hp
  simp only [Prod.mk.injEq] at e1
  exact ⟨l', e1.1 ▸ hl'⟩
 have hok' : ∀ p ∈ ups es x v, KeyOk P kt (ek p.1) := by
  intro p hp
  rcases mem_ups hp with rfl | hp
  · exact ⟨l, hl⟩
  · exact hok p hp
 rcases hk.find w hl arr.toList hkeys with ⟨h1, h2⟩ | ⟨j, e0, h1, h2, h3⟩
 · refine ⟨.map (arr.push ⟨ek x, v, clock⟩) (clock + 1), by simp [Instr.mapUpdate, run_underlying ht, MapKept.run_getObj_map hb, hk.check w false hl, h1, MapKept.run_setObj_map _ hb, Result.andThen, setBlock], _, _, heap_setBlock_same hb _, ?_, stamped_push hs h2, hok'⟩
   have : ∀ p ∈ es, p.1 ≠ x := by
    intro p hp e1
    have h4 : (ek p.1, p.2) ∈ arr.toList.map (fun e => (e.key, e.val)) := he ▸ List.mem_map.2 ⟨p, hp, rfl⟩
    obtain ⟨e, hm, e2⟩ := List.mem_map.1 h4
    simp only [Prod.mk.injEq] at e2
    exact h2 e hm (by rw [e2.1, e1])
   rw [ups_none this]
   simp [he]
 · have hj : arr[j]? = some e0 := by simpa using h2
   refine ⟨.map (arr.modify j fun e' => { e' with key := ek x, val := v }) clock, by simp [Instr.mapUpdate, run_underlying ht, MapKept.run_getObj_map hb, hk.check w false hl, h1, hj, h3, hk.stays w hl, MapKept.run_setObj_map _ hb, Result.andThen, setBlock], _, _, heap_setBlock_same hb _, ?_, ?_, hok'⟩
   · rw [Array.toList_modify, modify_eq_set _ _ _ _ h2]
     exact modify_entries arr.toList j e0 h2 es hinj he hnd x h3 v
   · exact stamped_modify hs _ _ (fun _ _ => rfl) (fun e' _ he' => by rw [hj] at he'; cases he'; exact h3.symm)
end
end Go.Proofs.YtjlknaahpjiibaaGreatDoor
namespace Go.Proofs.YtjlknaahpjiibaaGreatDoor
open Go.RowKit Go.ChangeMaps Go.MapKept
set_option linter.unusedVariables false
section
variable {P : Program} {K : Type} {kt : TypeId} {ek : K → Value}
def restOf {β : Type} (seen : Array Nat) (L : List (MapEntry × β)) : List β := (L.filter fun p => !seen.contains p.1.born).map (·.2)
theorem restOf_step {β : Type} (seen : Array Nat) (x : MapEntry × β) (hx : seen.contains x.1.born = false) : ∀ L : List (MapEntry × β), (L.map fun p => p.1.born).Nodup → x ∈ L → (restOf seen L).Perm (x.2 :: restOf (seen.push x.1.born) L) := by
 intro L
 induction L with
 | nil => intro _ h; cases h
 | cons y L ih =>
   intro hn hm
   rw [List.map_cons, List.nodup_cons] at hn
   unfold restOf at ih ⊢
   rcases List.mem_cons.1 hm with rfl | hm
   · have e1 : (L.filter fun p => !(seen.push x.1.born).contains p.1.born) = L.filter fun p => !seen.contains p.1.born := by
      apply List.filter_congr
      intro p hp
      have hne : p.1.born ≠ x.1.born := fun e => hn.1 (List.mem_map.2 ⟨p, hp, e⟩)
      rw [contains_push]
      simp [hne]
     rw [List.filter_cons, List.filter_cons, e1]
     simp only [hx, Bool.not_false, if_true, contains_push, beq_self_eq_true, Bool.or_true, Bool.not_true, Bool.false_eq_true, if_false, List.map_cons]
     exact List.Perm.refl _
   · have hne : y.1.born ≠ x.1.born := fun e => hn.1 (List.mem_map.2 ⟨x, hm, e.symm⟩)
     have h1 := ih hn.2 hm
     rw [List.filter_cons, List.filter_cons]
     simp only [contains_push]
     have hb : (y.1.born == x.1.born) = false := by simp [hne]
     rw [hb, Bool.or_false]
     simp only [contains_push] at h1
     cases seen.contains y.1.born
     · simp only [Bool.not_false, if_true, List.map_cons]
       exact (List.Perm.cons _ h1).trans (List.Perm.swap _ _ _)
     · simp only [Bool.not_true, Bool.false_eq_true, if_false]
       exact h1
def RangeAt (P : Program) (kt : TypeId) (ek : K → Value) (w : World) (b r : Nat) (es rest : List (K × Value)) : Prop :=
 ∃ arr clock since seen c0, w.heap[b]? = some (.map arr clock) ∧ arr.toList.map (fun e => (e.key, e.val)) = es.map (fun p => (ek p.1, p.2)) ∧ Stamped arr clock ∧ (∀ p ∈ es, KeyOk P kt (ek p.1)) ∧
  w.heap[r]? = some (.mapIter (some b) since seen c0) ∧ (∀ x ∈ arr.toList, x.born < since) ∧ since ≤ c0 ∧ since ≤ clock ∧ rest = restOf seen (arr.toList.zip es)
theorem RangeAt.map {w : World} {b r : Nat} {es rest : List (K × Value)} (h : RangeAt P kt ek w b r es rest) : MapAt P kt ek w b es := by
 obtain ⟨arr, clock, since, seen, c0, h1, h2, h3, h4, _⟩ := h
 exact ⟨arr, clock, h1, h2, h3, h4⟩
theorem RangeAt.lt {w : World} {b r : Nat} {es rest : List (K × Value)} (h : RangeAt P kt ek w b r es rest) : r < w.heap.size := by
 obtain ⟨arr, clock, since, seen, c0, h1, h2, h3, h4, h5, _⟩ := h
 exact lt_of_obj h5
theorem RangeAt.of_blocks {w w' : World} {b r : Nat} {es rest : List (K × Value)} (h : RangeAt P kt ek w b r es rest) (hb : w'.heap[b]? = w.heap[b]?) (hr : w'.heap[r]? = w.heap[r]?) : RangeAt P kt ek w' b r es rest := by
 obtain ⟨arr, clock, since, seen, c0, h1, h2, h3, h4, h5, h6⟩ := h
 exact ⟨arr, clock, since, seen, c0, hb.trans h1, h2, h3, h4, hr.trans h5, h6⟩
theorem RangeAt.kept {w w' : World} {b r : Nat} {es rest : List (K × Value)} {S : List Nat} (h : RangeAt P kt ek w b r es rest) (hc : Chg S w w') (hb : b ∉ S) (hr : r ∉ S) : RangeAt P kt ek w' b r es rest :=
 h.of_blocks (hc.block b h.map.lt hb) (hc.block r h.lt hr)
theorem restOf_len {seen : Array Nat} {arr : Array MapEntry} {es : List (K × Value)} (hl : arr.toList.length = es.length) : (restOf seen (arr.toList.zip es)).length = (leftOf arr seen).size := by
 have key : ∀ (L : List MapEntry) (es : List (K × Value)), L.length = es.length → (restOf seen (L.zip es)).length = (L.filter fun e => !seen.contains e.born).length := by
  intro L
  induction L with
  | nil => intro es h; simp [restOf]
  | cons x L ih =>
    intro es h
    cases es with
    | nil => simp at h
    | cons y es =>
      have := ih es (by simpa using h)
      unfold restOf at this ⊢
      rw [List.zip_cons_cons, List.filter_cons, List.filter_cons]
      split <;> simp only [List.map_cons, List.length_cons, this]
 rw [key _ _ hl]
 simp [leftOf, ← Array.length_toList]
theorem RangeAt.left_eq {w : World} {b r : Nat} {es rest : List (K × Value)} (h : RangeAt P kt ek w b r es rest) : w.rangeLeft b r = rest.length := by
 obtain ⟨arr, clock, since, seen, c0, hb, he, _, _, hr, _, _, _, rfl⟩ := h
 have hl : arr.toList.length = es.length := by have := congrArg List.length he; simpa using this
 rw [restOf_len hl]
 simp only [World.rangeLeft, hb, hr]
theorem MapAt.range {t e : TypeId} (ht : P.underlying t = some (.map kt e)) {w : World} {b : Nat} {es : List (K × Value)} (h : MapAt P kt ek w b es) :
 ∃ o, (Instr.range t (.map (some b))).run P w = .ok (.pointer (some ⟨w.heap.size, 0, none⟩)) (w.alloc o) ∧ RangeAt P kt ek (w.alloc o) b w.heap.size es es := by
 have hlt := h.lt
 obtain ⟨arr, clock, h1, h2, h3, h4⟩ := h
 have hl : arr.toList.length = es.length := by have := congrArg List.length h2; simpa using this
 refine ⟨_, run_range_map w t kt e b arr clock ht h1, arr, clock, clock, #[], clock, (heap_past _ _ _ hlt).trans h1, h2, h3, h4, heap_at _ _ _ rfl, h3.1, Nat.le_refl _, Nat.le_refl _, ?_⟩
 unfold restOf
 rw [List.filter_eq_self.2 (by simp), List.map_snd_zip (by omega)]
theorem RangeAt.next {w : World} {b r : Nat} {es rest : List (K × Value)} (h : RangeAt P kt ek w b r es rest) (ty : TypeId) :
 (rest = [] ∧ (Instr.next (.pointer (some ⟨r, 0, none⟩)) false ty).run P w = .ok (.tuple #[.bool false]) w) ∨
 ∃ k v rest' w', rest.Perm ((k, v) :: rest') ∧ (Instr.next (.pointer (some ⟨r, 0, none⟩)) false ty).run P w = .ok (.tuple #[.bool true, ek k, v]) w' ∧
  RangeAt P kt ek w' b r es rest' ∧ Chg [r] w w' ∧ w'.heap.size = w.heap.size ∧ (∀ a : Addr, w'.cell? a = w.cell? a) ∧ (∀ a : Addr, w'.frozen? a = w.frozen? a) ∧ (Instr.entry (.pointer (some ⟨r, 0, none⟩))).run P w' = .ok (.tuple #[ek k, v]) w' := by
 obtain ⟨arr, clock, since, seen, c0, hb, he, hst, hok, hr, hold, hsc, hsk, rfl⟩ := h
 have hl : arr.toList.length = es.length := by have := congrArg List.length he; simpa using this
 rcases run_next_at (P := P) w ty r b since c0 seen arr clock hr hb hold hsc with ⟨h0, hrun⟩ | ⟨e, hel, w1, hal, hrun⟩
 · refine Or.inl ⟨?_, hrun⟩
   have h1 := all_seen arr seen h0
   unfold restOf
   rw [List.filter_eq_nil_iff.2 (fun p hp => by rw [h1 p.1 (List.of_mem_zip hp).1]; simp)]
   rfl
 · have hmem := mem_left hel
   have hne : r ≠ b := fun e1 => by rw [e1, hb] at hr; cases hr
   obtain ⟨j, hj, hje⟩ := List.getElem_of_mem hmem.1
   have hj' : j < es.length := by omega
   have hzm : (e, es[j]) ∈ arr.toList.zip es := by
    rw [← hje]
    exact List.mem_iff_getElem.2 ⟨j, by rw [List.length_zip]; omega, List.getElem_zip⟩
   have hkv : e.key = ek es[j].1 ∧ e.val = es[j].2 := by
    have h1 : (arr.toList.map fun e => (e.key, e.val))[j]? = (es.map fun p => (ek p.1, p.2))[j]? := by rw [he]
    rw [List.getElem?_map, List.getElem?_map, List.getElem?_eq_getElem hj, List.getElem?_eq_getElem hj', hje] at h1
    simpa using h1
   have hnd : ((arr.toList.zip es).map fun p => p.1.born).Nodup := by
    have e1 : ((arr.toList.zip es).map fun p => p.1.born) = arr.toList.map (·.born) := by
     have : ((arr.toList.zip es).map fun p => p.1.born) = (((arr.toList.zip es).map Prod.fst).map (·.born)) := by rw [List.map_map]; rfl
     rw [this, List.map_fst_zip (by omega)]
    rw [e1]; exact hst.2.1
   have hr1 : w1.heap[r]? = some (.mapIter (some b) since seen c0) := by rcases hal with rfl | rfl <;> exact hr
   have hb1 : w1.heap[b]? = some (.map arr clock) := by rcases hal with rfl | rfl <;> exact hb
   have hset : (setBlock w1 r (.mapIter (some b) since (seen.push e.born) clock)).heap[r]? = some (.mapIter (some b) since (seen.push e.born) clock) := by simp [setBlock, lt_of_obj hr1]
   have hb' : (setBlock w1 r (.mapIter (some b) since (seen.push e.born) clock)).heap[b]? = some (.map arr clock) := by
    have : (setBlock w1 r (.mapIter (some b) since (seen.push e.born) clock)).heap[b]? = w1.heap[b]? := by simp [setBlock, hne]
    exact this.trans hb1
   have hcell : ∀ a : Addr, (setBlock w1 r (.mapIter (some b) since (seen.push e.born) clock)).cell? a = w.cell? a := fun a => by
    have h2 : w1.cell? a = w.cell? a := by rcases hal with rfl | rfl <;> rfl
    rw [← h2]
    by_cases ha : a.block = r
    · unfold World.cell?
      rw [ha, hset, hr1]
    · exact cell_setBlock ha
   have hfroz : ∀ a : Addr, (setBlock w1 r (.mapIter (some b) since (seen.push e.born) clock)).frozen? a = w.frozen? a := fun a => by
    have h2 : w1.frozen? a = w.frozen? a := by rcases hal with rfl | rfl <;> rfl
    rw [← h2]
    by_cases ha : a.block = r
    · unfold World.frozen?
      rw [ha, hset, hr1]
    · exact World.frozen?_of_block (by simp [setBlock, Ne.symm ha])
   refine Or.inr ⟨es[j].1, es[j].2, restOf (seen.push e.born) (arr.toList.zip es), _, restOf_step seen (e, es[j]) hmem.2 _ hnd hzm, by rw [hrun, hkv.1, hkv.2], ⟨arr, clock, since, seen.push e.born, clock, hb', he, hst, hok, hset, hold, hsk, hsk, rfl⟩, ?_, ?_, hcell, hfroz, ?_⟩
   · have h0 : Chg [r] w w1 := by rcases hal with rfl | rfl <;> first | exact Chg.refl _ _ | exact (Chg.refl _ _).drew
     exact h0.setBlock (Or.inl (by simp)) _
   · rcases hal with rfl | rfl <;> simp [setBlock]
   · rw [run_entry_at _ r b since seen arr clock e hset hb' hmem.1 hst.2.1, hkv.1, hkv.2]
end
end Go.Proofs.YtjlknaahpjiibaaGreatDoor
namespace Go.Proofs.YtjlknaahpjiibaaGreatDoor.F
set_option linter.unusedVariables false
set_option linter.unusedSimpArgs false
abbrev FEv := Int × ByteArray × Int
def vk (k : Int) : Bool := decide (1 ≤ k ∧ k ≤ 3)
def mrg (a b : Int) : Int := if ¬ vk a ∧ ¬ vk b then 0 else if ¬ vk b then a else if ¬ vk a then b else if a = 1 ∧ b = 3 then 0 else if a = 1 then 1 else if b = 3 then 3 else 2
def kd (o : Option FEv) : Int := (o.map (·.2.2)).getD 0
def mgStep (M : List (ByteArray × FEv)) (e : FEv) : List (ByteArray × FEv) := ups M e.2.1 (e.1, e.2.1, mrg (kd (aget M e.2.1)) e.2.2)
def mgd (E : List FEv) : List (ByteArray × FEv) := E.foldl mgStep []
theorem mgd_snoc (E : List FEv) (e : FEv) : mgd (E ++ [e]) = mgStep (mgd E) e := by simp [mgd, List.foldl_append]
def bl (s : ByteArray) : List UInt8 := s.data.toList
def lb (l : List UInt8) : ByteArray := ⟨l.toArray⟩
theorem lb_bl (s : ByteArray) : lb (bl s) = s := by cases s; simp [lb, bl]
theorem bl_lb (l : List UInt8) : bl (lb l) = l := by simp [lb, bl]
theorem bl_inj {a b : ByteArray} (h : bl a = bl b) : a = b := by rw [← lb_bl a, ← lb_bl b, h]
def srt (l : List ByteArray) : List ByteArray := ((l.map bl).mergeSort fun x y => decide (x ≤ y)).map lb
theorem le_total' (a b : List UInt8) : a ≤ b ∨ b ≤ a := List.le_total a b
theorem srt_perm (l : List ByteArray) : (srt l).Perm l := by
 have h := (List.mergeSort_perm (l.map bl) fun x y => decide (x ≤ y)).map lb
 rw [List.map_map, show lb ∘ bl = id from funext lb_bl, List.map_id] at h
 exact h
theorem srt_le (l : List ByteArray) : (srt l).Pairwise fun a b => bl a ≤ bl b := by
 have h := List.pairwise_mergeSort (le := fun (x y : List UInt8) => decide (x ≤ y)) (by intro a b c; simp only [decide_eq_true_eq]; exact fun h k => List.le_trans h k) (by intro a b; simpa using le_total' a b) (l.map bl)
 unfold srt
 rw [List.pairwise_map]
 exact h.imp fun {a b} hab => by rw [bl_lb, bl_lb]; simpa using hab
theorem srt_congr {l m : List ByteArray} (h : l.Perm m) : srt l = srt m := by
 have hp : (srt l).Perm (srt m) := ((srt_perm l).trans h).trans (srt_perm m).symm
 refine hp.eq_of_pairwise (le := fun a b => bl a ≤ bl b) (fun a b _ _ h1 h2 => bl_inj (List.le_antisymm h1 h2)) (srt_le l) (srt_le m)
theorem srt_lt {l : List ByteArray} (h : l.Nodup) : (srt l).Pairwise fun a b => bl a < bl b := by
 have hn : (srt l).Nodup := (srt_perm l).nodup_iff.2 h
 refine (List.Pairwise.and (srt_le l) hn).imp fun {a b} hab => ?_
 rcases List.le_iff_lt_or_eq.1 hab.1 with h1 | h1
 · exact h1
 · exact absurd (bl_inj h1) hab.2
theorem srt_mem (l : List ByteArray) (x : ByteArray) : x ∈ srt l ↔ x ∈ l := (srt_perm l).mem_iff
def nbE (E : List FEv) : List FEv := (srt ((mgd E).map (·.1))).filterMap fun k => (aget (mgd E) k).filter fun e => decide (e.2.2 ≠ 0)
def bat (d : Int) : List FEv → List FEv → List (Int × List FEv)
 | _, [] => []
 | G, e :: rest =>
   if rest.length ≠ 0 ∧ (rest.headD (0, ByteArray.empty, 0)).1 - e.1 < d then bat d (G ++ [e]) rest
   else (if nbE (G ++ [e]) = [] then [] else [(e.1 + d, nbE (G ++ [e]))]) ++ bat d [] rest
theorem snocInd {α : Type} {p : List α → Prop} (h0 : p []) (h1 : ∀ l x, p l → p (l ++ [x])) (l : List α) : p l := by
 have h : ∀ r : List α, p r.reverse := by
  intro r
  induction r with
  | nil => exact h0
  | cons x r ih => rw [List.reverse_cons]; exact h1 _ x ih
 have := h l.reverse
 rwa [List.reverse_reverse] at this
def kof (E : List FEv) (p : ByteArray) : Int := E.foldl (fun k e => if e.2.1 = p then mrg k e.2.2 else k) 0
theorem kof_snoc (E : List FEv) (e : FEv) (p : ByteArray) : kof (E ++ [e]) p = if e.2.1 = p then mrg (kof E p) e.2.2 else kof E p := by simp [kof, List.foldl_append]
theorem mgd_get (E : List FEv) (p : ByteArray) : (∀ e, aget (mgd E) p = some e → e.2.1 = p ∧ e.2.2 = kof E p ∧ ∃ e' ∈ E, e'.1 = e.1 ∧ e'.2.1 = p) ∧ (aget (mgd E) p = none → kof E p = 0 ∧ ∀ e ∈ E, e.2.1 ≠ p) := by
 refine snocInd (p := fun E => (∀ e, aget (mgd E) p = some e → e.2.1 = p ∧ e.2.2 = kof E p ∧ ∃ e' ∈ E, e'.1 = e.1 ∧ e'.2.1 = p) ∧ (aget (mgd E) p = none → kof E p = 0 ∧ ∀ e ∈ E, e.2.1 ≠ p)) ?_ ?_ E
 · simp [mgd, kof, aget_nil]
 · intro E x ih
   rw [mgd_snoc, kof_snoc]
   unfold mgStep
   rw [aget_ups]
   by_cases hx : x.2.1 = p
   · subst hx
     simp only [if_true]
     refine ⟨?_, by simp⟩
     rintro e he
     simp only [Option.some.injEq] at he
     subst he
     refine ⟨rfl, ?_, x, by simp, rfl, rfl⟩
     have hk : kd (aget (mgd E) x.2.1) = kof E x.2.1 := by
      cases ha : aget (mgd E) x.2.1 with
      | none => rw [(ih.2 ha).1]; rfl
      | some e => rw [← (ih.1 e ha).2.1]; rfl
     simp only [hk]
   · simp only [if_neg hx]
     refine ⟨fun e he => ?_, fun hn => ⟨(ih.2 hn).1, fun e he => ?_⟩⟩
     · obtain ⟨h1, h2, e', h3, h4⟩ := ih.1 e he
       exact ⟨h1, h2, e', by simp [h3], h4⟩
     · rcases List.mem_append.1 he with he | he
       · exact (ih.2 hn).2 e he
       · rw [List.mem_singleton.1 he]; exact hx
theorem nodup_upsF {es : List (ByteArray × FEv)} (h : (es.map (·.1)).Nodup) (x : ByteArray) (v : FEv) : ((ups es x v).map (·.1)).Nodup := by
 induction es with
 | nil => simp [ups]
 | cons q r ih =>
   rw [List.map_cons, List.nodup_cons] at h
   unfold ups
   split
   · rename_i hq
     rw [List.map_cons, List.nodup_cons]
     exact ⟨by rw [← hq]; exact h.1, h.2⟩
   · rename_i hq
     rw [List.map_cons, List.nodup_cons]
     refine ⟨fun hm => ?_, ih h.2⟩
     obtain ⟨y, hy, hye⟩ := List.mem_map.1 hm
     have hg := aget_of_mem (ih h.2) (show (y.1, y.2) ∈ ups r x v from hy)
     rw [aget_ups] at hg
     split at hg
     · rename_i hxy; exact hq (by rw [← hye, ← hxy])
     · exact h.1 (List.mem_map.2 ⟨_, aget_mem hg, hye⟩)
theorem mgd_nodup (E : List FEv) : ((mgd E).map (·.1)).Nodup := by
 refine snocInd (p := fun E => ((mgd E).map (·.1)).Nodup) ?_ ?_ E
 · simp [mgd]
 · intro E x ih; rw [mgd_snoc]; exact nodup_upsF ih _ _
theorem mgd_key (E : List FEv) (p : ByteArray) : p ∈ (mgd E).map (·.1) ↔ (aget (mgd E) p).isSome := by
 constructor
 · intro h
   obtain ⟨q, hq, rfl⟩ := List.mem_map.1 h
   rw [aget_of_mem (mgd_nodup E) (show (q.1, q.2) ∈ mgd E from hq)]; rfl
 · intro h
   obtain ⟨e, he⟩ := Option.isSome_iff_exists.1 h
   exact List.mem_map.2 ⟨_, aget_mem he, rfl⟩
theorem nb_mem (E : List FEv) (e : FEv) : e ∈ nbE E ↔ aget (mgd E) e.2.1 = some e ∧ e.2.2 ≠ 0 := by
 unfold nbE
 rw [List.mem_filterMap]
 constructor
 · rintro ⟨k, _, hk⟩
   obtain ⟨h1, h2⟩ := Option.filter_eq_some_iff.1 hk
   have := ((mgd_get E k).1 e h1).1
   subst this
   exact ⟨h1, by simpa using h2⟩
 · rintro ⟨h1, h2⟩
   exact ⟨e.2.1, (srt_mem _ _).2 ((mgd_key E _).2 (by rw [h1]; rfl)), Option.filter_eq_some_iff.2 ⟨h1, by simpa using h2⟩⟩
theorem nb_sorted (E : List FEv) : (nbE E).Pairwise fun a b => bl a.2.1 < bl b.2.1 := by
 unfold nbE
 rw [List.pairwise_filterMap]
 refine (srt_lt (mgd_nodup E)).imp ?_
 intro a b hab x hx y hy
 have h1 := ((mgd_get E a).1 x (Option.filter_eq_some_iff.1 hx).1).1
 have h2 := ((mgd_get E b).1 y (Option.filter_eq_some_iff.1 hy).1).1
 rw [h1, h2]; exact hab
theorem nb_time (E : List FEv) (e : FEv) (h : e ∈ nbE E) : ∃ e' ∈ E, e'.1 = e.1 := by
 obtain ⟨_, _, e', h1, h2, _⟩ := (mgd_get E e.2.1).1 e ((nb_mem E e).1 h).1
 exact ⟨e', h1, h2⟩
def rp (p : ByteArray) : Bool → List FEv → Bool
 | b, [] => b
 | b, e :: r => rp p (if e.2.1 = p then decide (e.2.2 ≠ 3) else b) r
def cp (p : ByteArray) : Bool → List FEv → Prop
 | _, [] => True
 | b, e :: r => (e.2.1 = p → (b = true ↔ e.2.2 ≠ 1)) ∧ cp p (if e.2.1 = p then decide (e.2.2 ≠ 3) else b) r
theorem rp_app (p : ByteArray) : ∀ (L M : List FEv) (b : Bool), rp p b (L ++ M) = rp p (rp p b L) M := by
 intro L
 induction L with
 | nil => intro M b; rfl
 | cons e L ih => intro M b; simp only [List.cons_append, rp, ih]
theorem cp_app (p : ByteArray) : ∀ (L M : List FEv) (b : Bool), cp p b (L ++ M) ↔ cp p b L ∧ cp p (rp p b L) M := by
 intro L
 induction L with
 | nil => intro M b; simp [cp, rp]
 | cons e L ih => intro M b; simp only [List.cons_append, cp, rp, ih, and_assoc]
def Vk (E : List FEv) : Prop := ∀ e ∈ E, 1 ≤ e.2.2 ∧ e.2.2 ≤ 3
theorem kof_cases (p : ByteArray) (b : Bool) (G : List FEv) : Vk G → cp p b G →
 (kof G p = 0 ∧ rp p b G = b) ∨ (kof G p = 1 ∧ b = false ∧ rp p b G = true) ∨ (kof G p = 2 ∧ b = true ∧ rp p b G = true) ∨ (kof G p = 3 ∧ b = true ∧ rp p b G = false) := by
 refine snocInd (p := fun G => Vk G → cp p b G → (kof G p = 0 ∧ rp p b G = b) ∨ (kof G p = 1 ∧ b = false ∧ rp p b G = true) ∨ (kof G p = 2 ∧ b = true ∧ rp p b G = true) ∨ (kof G p = 3 ∧ b = true ∧ rp p b G = false)) ?_ ?_ G
 · intro _ _; exact Or.inl ⟨rfl, rfl⟩
 · intro G x ih hv hc
   have hvx := hv x (by simp)
   rw [cp_app] at hc
   have h := ih (fun e he => hv e (by simp [he])) hc.1
   have hx := hc.2
   rw [kof_snoc, rp_app]
   simp only [cp, rp, and_true] at hx ⊢
   by_cases hp : x.2.1 = p
   · simp only [if_pos hp] at hx ⊢
     have hx := hx hp
     have h3 : x.2.2 = 1 ∨ x.2.2 = 2 ∨ x.2.2 = 3 := by omega
     rcases h3 with h3 | h3 | h3 <;> rcases h with ⟨h1, h2⟩ | ⟨h1, h4, h2⟩ | ⟨h1, h4, h2⟩ | ⟨h1, h4, h2⟩ <;> rw [h3] at hx <;> rw [h2] at hx <;> rw [h1, h3] <;> simp [mrg, vk] at hx ⊢ <;> simp_all
   · simp only [if_neg hp] at hx ⊢
     exact h
theorem one_path (p : ByteArray) (b : Bool) : ∀ L : List FEv, (L.Pairwise fun x y => bl x.2.1 < bl y.2.1) →
 ((∀ e ∈ L, e.2.1 ≠ p) → rp p b L = b ∧ cp p b L) ∧ (∀ e ∈ L, e.2.1 = p → rp p b L = decide (e.2.2 ≠ 3) ∧ (cp p b L ↔ (b = true ↔ e.2.2 ≠ 1))) := by
 intro L
 have none : ∀ (b : Bool) (L : List FEv), (∀ e ∈ L, e.2.1 ≠ p) → rp p b L = b ∧ cp p b L := by
  intro b L
  induction L generalizing b with
  | nil => intro _; exact ⟨rfl, trivial⟩
  | cons e L ih =>
    intro h
    have he := h e (by simp)
    obtain ⟨h1, h2⟩ := ih b (fun e' he' => h e' (by simp [he']))
    unfold rp cp
    rw [if_neg he]
    exact ⟨h1, fun h => absurd h he, h2⟩
 intro hL
 refine ⟨none b L, ?_⟩
 induction L with
 | nil => intro e he; simp at he
 | cons x L ih =>
   intro e he hep
   obtain ⟨h1, h2⟩ := List.pairwise_cons.1 hL
   unfold rp cp
   by_cases hx : x.2.1 = p
   · have hne : ∀ e ∈ L, e.2.1 ≠ p := by
      intro e' he' h
      have := h1 e' he'
      rw [hx, h] at this
      exact absurd this (List.lt_irrefl _)
     have hex : e = x := by
      rcases List.mem_cons.1 he with h | h
      · exact h
      · exact absurd hep (hne e h)
     subst hex
     rw [if_pos hx]
     obtain ⟨h3, h4⟩ := none (decide (e.2.2 ≠ 3)) L hne
     exact ⟨h3, ⟨fun h => h.1 hx, fun h => ⟨fun _ => h, h4⟩⟩⟩
   · rw [if_neg hx]
     have heL : e ∈ L := by
      rcases List.mem_cons.1 he with h | h
      · subst h; exact absurd hep hx
      · exact h
     obtain ⟨h3, h4⟩ := ih h2 e heL hep
     exact ⟨h3, ⟨fun h => h4.1 h.2, fun h => ⟨fun h' => absurd h' hx, h4.2 h⟩⟩⟩
theorem nb_keeps (p : ByteArray) (b : Bool) (G : List FEv) (hv : Vk G) (hc : cp p b G) : rp p b (nbE G) = rp p b G ∧ cp p b (nbE G) := by
 have hk := kof_cases p b G hv hc
 obtain ⟨o1, o2⟩ := one_path p b (nbE G) (nb_sorted G)
 obtain ⟨g1, g2⟩ := mgd_get G p
 cases ha : aget (mgd G) p with
 | none =>
   have h0 := (g2 ha).1
   have hn : ∀ e ∈ nbE G, e.2.1 ≠ p := by
    intro e he h
    have := ((nb_mem G e).1 he).1
    rw [h, ha] at this; exact absurd this (by simp)
   obtain ⟨h1, h2⟩ := o1 hn
   refine ⟨h1.trans ?_, h2⟩
   rcases hk with hk | hk | hk | hk
   · exact hk.2.symm
   all_goals (rw [h0] at hk; exact absurd hk.1 (by omega))
 | some e =>
   obtain ⟨e1, e2, _⟩ := g1 e ha
   by_cases h0 : e.2.2 = 0
   · have hn : ∀ e ∈ nbE G, e.2.1 ≠ p := by
      intro e' he h
      obtain ⟨h1, h2⟩ := (nb_mem G e').1 he
      rw [h, ha, Option.some.injEq] at h1
      rw [← h1] at h2; exact h2 h0
     obtain ⟨h1, h2⟩ := o1 hn
     refine ⟨h1.trans ?_, h2⟩
     rw [← e2] at hk
     rcases hk with hk | hk | hk | hk
     · exact hk.2.symm
     all_goals (rw [h0] at hk; exact absurd hk.1 (by omega))
   · have hm : e ∈ nbE G := (nb_mem G e).2 ⟨by rw [e1]; exact ha, h0⟩
     obtain ⟨h1, h2⟩ := o2 e hm e1
     rw [h1, h2]
     rw [← e2] at hk
     rcases hk with hk | hk | hk | hk
     · exact absurd hk.1 h0
     · rw [hk.2.2, hk.1, hk.2.1]; simp
     · rw [hk.2.2, hk.1, hk.2.1]; simp
     · rw [hk.2.2, hk.1, hk.2.1]; simp
theorem bat_keeps (p : ByteArray) (d : Int) : ∀ (rest G : List FEv) (b : Bool), (rest = [] → G = []) → Vk (G ++ rest) → cp p b (G ++ rest) →
 rp p b ((bat d G rest).flatMap (·.2)) = rp p b (G ++ rest) ∧ cp p b ((bat d G rest).flatMap (·.2)) := by
 intro rest
 induction rest with
 | nil => intro G b hG _ _; rw [hG rfl]; exact ⟨rfl, trivial⟩
 | cons x rest ih =>
   intro G b _ hv hc
   unfold bat
   split
   · rename_i h
     have := ih (G ++ [x]) b (fun hr => by rw [hr] at h; exact absurd rfl h.1) (by simpa using hv) (by simpa using hc)
     simpa using this
   · have e0 : G ++ x :: rest = (G ++ [x]) ++ rest := by simp
     rw [e0] at hv hc ⊢
     rw [cp_app] at hc
     have hg : ∀ b' : Bool, ((if nbE (G ++ [x]) = [] then [] else [(x.1 + d, nbE (G ++ [x]))]).flatMap (·.2)) = nbE (G ++ [x]) := by
      intro _; split
      · rename_i h; rw [h]; rfl
      · simp
     obtain ⟨h1, h2⟩ := nb_keeps p b (G ++ [x]) (fun e he => hv e (List.mem_append.2 (Or.inl he))) hc.1
     obtain ⟨h3, h4⟩ := ih [] (rp p b (G ++ [x])) (fun _ => rfl) (fun e he => hv e (List.mem_append.2 (Or.inr (by simpa using he)))) (by simpa using hc.2)
     rw [List.flatMap_append, hg b, rp_app, cp_app, rp_app, h1]
     exact ⟨by simpa using h3, h2, h4⟩
abbrev Fm := List (ByteArray × Int)
def exM (F : List ByteArray) : Fm := F.foldl (fun M f => ups M f 1) []
def apS (M : Fm) (e : FEv) : Fm := if e.2.2 = 1 ∨ e.2.2 = 2 then ups M e.2.1 1 else if e.2.2 = 3 then adel M e.2.1 else M
def apM (M : Fm) (E : List FEv) : Fm := E.foldl apS M
def apL (F : List ByteArray) (E : List FEv) : List ByteArray := srt ((apM (exM F) E).map (·.1))
def coM : Fm → List FEv → Bool
 | _, [] => true
 | M, e :: r => if vk e.2.2 then (if (decide ((aget M e.2.1).getD 0 ≠ 0) == decide (e.2.2 = 1)) then false else coM (ups M e.2.1 (if e.2.2 = 3 then 0 else 1)) r) else coM M r
theorem co_iff : ∀ (E : List FEv) (M : Fm), Vk E → (coM M E = true ↔ ∀ p, cp p (decide ((aget M p).getD 0 ≠ 0)) E) := by
 intro E
 induction E with
 | nil => intro M _; simp [coM, cp]
 | cons e E ih =>
   intro M hv
   have hve := hv e (by simp)
   have hvk : vk e.2.2 = true := by unfold vk; simpa using hve
   have hst : ∀ p, decide ((aget (ups M e.2.1 (if e.2.2 = 3 then 0 else 1)) p).getD 0 ≠ 0) = if e.2.1 = p then decide (e.2.2 ≠ 3) else decide ((aget M p).getD 0 ≠ 0) := by
    intro p
    rw [aget_ups]
    by_cases hp : e.2.1 = p
    · simp only [if_pos hp, Option.getD_some]
      by_cases h3 : e.2.2 = 3 <;> simp [h3]
    · simp only [if_neg hp]
   unfold coM
   rw [if_pos hvk]
   simp only [cp]
   by_cases hc : (decide ((aget M e.2.1).getD 0 ≠ 0) == decide (e.2.2 = 1)) = true
   · rw [if_pos hc]
     simp only [Bool.false_eq_true, false_iff]
     intro h
     have := (h e.2.1).1 rfl
     rw [beq_iff_eq] at hc
     rw [hc] at this
     simp at this
   · rw [if_neg hc, ih _ (fun x hx => hv x (by simp [hx]))]
     constructor
     · intro h p
       refine ⟨fun hp => ?_, by have := h p; rwa [hst p] at this⟩
       subst hp
       by_cases h0 : (aget M e.2.1).getD 0 = 0 <;> by_cases h1 : e.2.2 = 1 <;> simp [h0, h1] at hc ⊢
     · intro h p
       rw [hst p]
       exact (h p).2
theorem ap_get : ∀ (E : List FEv) (M : Fm) (p : ByteArray), Vk E → (aget (apM M E) p).isSome = rp p (aget M p).isSome E := by
 intro E
 induction E with
 | nil => intro M p _; rfl
 | cons e E ih =>
   intro M p hv
   have hve := hv e (by simp)
   have hs : (aget (apS M e) p).isSome = if e.2.1 = p then decide (e.2.2 ≠ 3) else (aget M p).isSome := by
    unfold apS
    split
    · rename_i h
      rw [aget_ups]
      split
      · rcases h with h | h <;> simp [h]
      · rfl
    · rw [if_pos (by omega), aget_adel]
      have h3 : e.2.2 = 3 := by omega
      split
      · simp [h3]
      · rfl
   have := ih (apS M e) p (fun x hx => hv x (by simp [hx]))
   show (aget (apM (apS M e) E) p).isSome = _
   rw [this, hs]; rfl
theorem ups_nodup {V : Type} {es : List (ByteArray × V)} (h : (es.map (·.1)).Nodup) (x : ByteArray) (v : V) : ((ups es x v).map (·.1)).Nodup := by
 induction es with
 | nil => simp [ups]
 | cons q r ih =>
   rw [List.map_cons, List.nodup_cons] at h
   unfold ups
   split
   · rename_i hq
     rw [List.map_cons, List.nodup_cons]
     exact ⟨by rw [← hq]; exact h.1, h.2⟩
   · rename_i hq
     rw [List.map_cons, List.nodup_cons]
     refine ⟨fun hm => ?_, ih h.2⟩
     obtain ⟨y, hy, hye⟩ := List.mem_map.1 hm
     have hg := aget_of_mem (ih h.2) (show (y.1, y.2) ∈ ups r x v from hy)
     rw [aget_ups] at hg
     split at hg
     · rename_i hxy; exact hq (by rw [← hye, ← hxy])
     · exact h.1 (List.mem_map.2 ⟨_, aget_mem hg, hye⟩)
theorem adel_nodup {V : Type} {es : List (ByteArray × V)} (h : (es.map (·.1)).Nodup) (x : ByteArray) : ((adel es x).map (·.1)).Nodup :=
 h.sublist ((show (adel es x).Sublist es from List.filter_sublist).map _)
theorem exM_nodup (F : List ByteArray) : ((exM F).map (·.1)).Nodup := by
 have : ∀ (F : List ByteArray) (M : Fm), (M.map (·.1)).Nodup → ((F.foldl (fun M f => ups M f 1) M).map (·.1)).Nodup := by
  intro F
  induction F with
  | nil => intro M h; exact h
  | cons f F ih => intro M h; exact ih _ (ups_nodup h _ _)
 exact this F [] (by simp)
theorem apM_nodup : ∀ (E : List FEv) (M : Fm), (M.map (·.1)).Nodup → ((apM M E).map (·.1)).Nodup := by
 intro E
 induction E with
 | nil => intro M h; exact h
 | cons e E ih =>
   intro M h
   refine ih _ ?_
   unfold apS
   split
   · exact ups_nodup h _ _
   · split
     · exact adel_nodup h _
     · exact h
theorem exM_val (F : List ByteArray) (p : ByteArray) : decide ((aget (exM F) p).getD 0 ≠ 0) = (aget (exM F) p).isSome := by
 have : ∀ (F : List ByteArray) (M : Fm), (∀ v, aget M p = some v → v = 1) → ∀ v, aget (F.foldl (fun M f => ups M f 1) M) p = some v → v = 1 := by
  intro F
  induction F with
  | nil => intro M h; exact h
  | cons f F ih =>
    intro M h
    refine ih _ fun v hv => ?_
    rw [aget_ups] at hv
    split at hv
    · simpa using hv.symm
    · exact h v hv
 have h := this F [] (by simp [aget_nil])
 change ∀ v, aget (exM F) p = some v → v = 1 at h
 cases ha : aget (exM F) p with
 | none => rfl
 | some v => rw [h v ha]; rfl
theorem mem_some {V : Type} {es : List (ByteArray × V)} (h : (es.map (·.1)).Nodup) (p : ByteArray) : p ∈ es.map (·.1) ↔ (aget es p).isSome = true := by
 constructor
 · intro h'
   obtain ⟨q, hq, rfl⟩ := List.mem_map.1 h'
   rw [aget_of_mem h (show (q.1, q.2) ∈ es from hq)]; rfl
 · intro h'
   obtain ⟨e, he⟩ := Option.isSome_iff_exists.1 h'
   exact List.mem_map.2 ⟨_, aget_mem he, rfl⟩
theorem nb_vk {G : List FEv} (hv : Vk G) : Vk (nbE G) := by
 intro e he
 obtain ⟨h1, h2⟩ := (nb_mem G e).1 he
 have hk := ((mgd_get G e.2.1).1 e h1).2.1
 have hb : ∀ (G : List FEv) (p : ByteArray), 0 ≤ kof G p ∧ kof G p ≤ 3 := by
  intro G p
  refine snocInd (p := fun G => 0 ≤ kof G p ∧ kof G p ≤ 3) (by simp [kof]) ?_ G
  intro L x ih
  rw [kof_snoc]
  split
  · unfold mrg vk
    simp only [decide_eq_true_eq]
    repeat' split
    all_goals omega
  · exact ih
 have := hb G e.2.1
 omega
theorem bat_vk (d : Int) : ∀ (rest G : List FEv), Vk (G ++ rest) → Vk ((bat d G rest).flatMap (·.2)) := by
 intro rest
 induction rest with
 | nil => intro G _ e he; simp [bat] at he
 | cons x rest ih =>
   intro G hv
   unfold bat
   split
   · exact ih (G ++ [x]) (by simpa using hv)
   · intro e he
     rw [List.flatMap_append] at he
     rcases List.mem_append.1 he with he | he
     · refine nb_vk (G := G ++ [x]) (fun e' he' => hv e' ?_) e ?_
       · rcases List.mem_append.1 he' with h | h
         · simp [h]
         · rw [List.mem_singleton.1 h]; simp
       · split at he
         · simp at he
         · simpa using he
     · exact ih [] (fun e' he' => hv e' (by simp at he'; simp [he'])) e he
theorem files_law (F : List ByteArray) (E : List FEv) (d : Int) (hv : Vk E) (hc : coM (exM F) E = true) :
 apL F E = apL F ((bat d [] E).flatMap (·.2)) ∧ coM (exM F) ((bat d [] E).flatMap (·.2)) = true := by
 have hvD := bat_vk d E [] hv
 have hcp := (co_iff E (exM F) hv).1 hc
 have hk := fun p => bat_keeps p d E [] (decide ((aget (exM F) p).getD 0 ≠ 0)) (fun _ => rfl) hv (hcp p)
 refine ⟨?_, (co_iff _ _ hvD).2 fun p => (hk p).2⟩
 unfold apL
 refine srt_congr ?_
 have n1 := apM_nodup E _ (exM_nodup F)
 have n2 := apM_nodup ((bat d [] E).flatMap (·.2)) _ (exM_nodup F)
 refine (List.perm_ext_iff_of_nodup n1 n2).2 fun p => ?_
 rw [mem_some n1, mem_some n2, ap_get _ _ _ hv, ap_get _ _ _ hvD, ← exM_val, (hk p).1]
 rfl
end Go.Proofs.YtjlknaahpjiibaaGreatDoor.F
namespace Go.Proofs.YtjlknaahpjiibaaGreatDoor
open Go.RowKit Go.ChangeMaps Go.MapKept
open Go.Maps (Keyed)
set_option linter.unusedVariables false
section
variable {P : Program} {K : Type} {kt : TypeId} {ek : K → Value}
theorem adel_none {V : Type} [DecidableEq K] {es : List (K × V)} {x : K} (h : ∀ p ∈ es, p.1 ≠ x) : adel es x = es := List.filter_eq_self.2 (by simpa using h)
theorem mem_adel {V : Type} [DecidableEq K] {es : List (K × V)} {x : K} {p : K × V} (h : p ∈ adel es x) : p ∈ es ∧ p.1 ≠ x := by
 unfold adel at h
 rw [List.mem_filter] at h
 exact ⟨h.1, by simpa using h.2⟩
variable [DecidableEq K]
theorem erase_entries (l : List MapEntry) (j : Nat) (e0 : MapEntry) (hj : l[j]? = some e0) (es : List (K × Value)) (hinj : ∀ x y, ek x = ek y → x = y) (he : l.map (fun e => (e.key, e.val)) = es.map (fun p => (ek p.1, p.2))) (hnd : (es.map (·.1)).Nodup) (x : K) (hx : e0.key = ek x) :
 (l.eraseIdx j).map (fun e => (e.key, e.val)) = (adel es x).map (fun p => (ek p.1, p.2)) := by
 induction l generalizing j es with
 | nil => simp at hj
 | cons e r ih =>
   cases es with
   | nil => simp at he
   | cons p s =>
     simp only [List.map_cons, List.cons.injEq, Prod.mk.injEq] at he
     rw [List.map_cons, List.nodup_cons] at hnd
     cases j with
     | zero =>
       simp only [List.getElem?_cons_zero, Option.some.injEq] at hj
       subst hj
       have : p.1 = x := hinj _ _ (he.1.1.symm.trans hx)
       have h2 : adel (p :: s) x = s := by
        unfold adel
        rw [List.filter_cons, this]
        simp only [ne_eq, not_true_eq_false, decide_false, Bool.false_eq_true, if_false]
        exact List.filter_eq_self.2 fun q hq => by
         simp only [decide_eq_true_eq]
         intro e; exact hnd.1 (List.mem_map.2 ⟨q, hq, by rw [e, this]⟩)
       rw [h2]
       exact he.2
     | succ j =>
       simp only [List.getElem?_cons_succ] at hj
       have hne : p.1 ≠ x := by
        intro e1
        have h1 : (e0.key, e0.val) ∈ s.map (fun p => (ek p.1, p.2)) := he.2 ▸ List.mem_map.2 ⟨e0, List.mem_of_getElem? hj, rfl⟩
        obtain ⟨q, hq, e2⟩ := List.mem_map.1 h1
        simp only [Prod.mk.injEq] at e2
        have : q.1 = x := hinj _ _ (by rw [e2.1, hx])
        exact hnd.1 (List.mem_map.2 ⟨q, hq, by rw [this, e1]⟩)
       have h2 : adel (p :: s) x = p :: adel s x := by unfold adel; rw [List.filter_cons]; simp [hne]
       rw [h2, List.eraseIdx_cons_succ, List.map_cons, List.map_cons, ih j hj s he.2 hnd.2, he.1.1, he.1.2]
theorem MapAt.delete (hk : Keyed P kt) (hinj : ∀ x y, ek x = ek y → x = y) {t et : TypeId} (ht : P.underlying t = some (.map kt et)) {w : World} {b : Nat} {es : List (K × Value)} (h : MapAt P kt ek w b es) {x : K} (hx : KeyOk P kt (ek x)) (ty : TypeId) :
 ∃ o, (Builtin.delete_ #[t, kt] ty #[.map (some b), ek x]).run P w = .ok (.tuple #[]) (setBlock w b o) ∧ MapAt P kt ek (setBlock w b o) b (adel es x) := by
 have hnd := h.nodup
 obtain ⟨arr, clock, hb, he, hs, hok⟩ := h
 obtain ⟨l, hl⟩ := hx
 have hkeys : ∀ e ∈ arr.toList, ∃ l, keyOf P kt e.key = some l := by
  intro e hm
  have h1 : (e.key, e.val) ∈ es.map (fun p => (ek p.1, p.2)) := he ▸ List.mem_map.2 ⟨e, hm, rfl⟩
  obtain ⟨p, hp, e1⟩ := List.mem_map.1 h1
  obtain ⟨l', hl'⟩ := hok p hp
  simp only [Prod.mk.injEq] at e1
  exact ⟨l', e1.1 ▸ hl'⟩
 rcases hk.find w hl arr.toList hkeys with ⟨h1, h2⟩ | ⟨j, e0, h1, h2, h3⟩
 · refine ⟨.map arr clock, by simp [Builtin.delete_, run_underlying ht, MapKept.run_getObj_map hb, hk.check w _ hl, h1, MapKept.run_setObj_map _ hb, Result.andThen, setBlock], _, _, heap_setBlock_same hb _, ?_, hs, fun p hp => hok p (mem_adel hp).1⟩
   rw [adel_none, he]
   intro p hp e1
   have h4 : (ek p.1, p.2) ∈ arr.toList.map (fun e => (e.key, e.val)) := he ▸ List.mem_map.2 ⟨p, hp, rfl⟩
   obtain ⟨e, hm, e2⟩ := List.mem_map.1 h4
   simp only [Prod.mk.injEq] at e2
   exact h2 e hm (by rw [e2.1, e1])
 · refine ⟨.map (arr.eraseIdxIfInBounds j) clock, by simp [Builtin.delete_, run_underlying ht, MapKept.run_getObj_map hb, hk.check w _ hl, h1, MapKept.run_setObj_map _ hb, Result.andThen, setBlock], _, _, heap_setBlock_same hb _, ?_, stamped_erase hs _, fun p hp => hok p (mem_adel hp).1⟩
   have hlt : j < arr.size := by have := (List.getElem?_eq_some_iff.1 h2).1; simpa using this
   rw [Array.eraseIdxIfInBounds, dif_pos hlt, Array.toList_eraseIdx]
   exact erase_entries arr.toList j e0 h2 es hinj he hnd x h3
end
end Go.Proofs.YtjlknaahpjiibaaGreatDoor
namespace Go.Proofs.YtjlknaahpjiibaaGreatDoor.Jv
set_option linter.unusedVariables false
set_option linter.unusedSimpArgs false
inductive J where
 | mk (kind num : Int) (text : ByteArray) (names : List ByteArray) (elems : List J) : J
def J.kind : J → Int | .mk k _ _ _ _ => k
def J.num : J → Int | .mk _ n _ _ _ => n
def J.text : J → ByteArray | .mk _ _ t _ _ => t
def J.names : J → List ByteArray | .mk _ _ _ ns _ => ns
def J.elems : J → List J | .mk _ _ _ _ es => es
theorem J.ind {P : J → Prop} (h : ∀ k n t ns es, (∀ e ∈ es, P e) → P (.mk k n t ns es)) : ∀ j, P j
 | .mk k n t ns es => h k n t ns es fun e he => J.ind h e
termination_by j => SizeOf.sizeOf j
decreasing_by
 have := List.sizeOf_lt_of_mem he
 simp only [J.mk.sizeOf_spec]
 omega
instance : Inhabited J := ⟨.mk 0 0 ⟨#[]⟩ [] []⟩
def J.zero : J := .mk 0 0 ⟨#[]⟩ [] []
theorem nodup_rev {l : List ByteArray} (h : l.Nodup) : l.reverse.Nodup := by
 unfold List.Nodup
 rw [List.pairwise_reverse]
 exact h.imp fun h => Ne.symm h
theorem nodup_inj {l : List ByteArray} (h : l.Nodup) {i j : Nat} (hi : i < l.length) (hj : j < l.length) (e : l[i] = l[j]) : i = j := by
 unfold List.Nodup at h
 rw [List.pairwise_iff_getElem] at h
 rcases Nat.lt_trichotomy i j with hlt | rfl | hlt
 · exact absurd e (h i j hi hj hlt)
 · rfl
 · exact absurd e.symm (h j i hj hi hlt)
mutual
def J.nodes : J → Nat | .mk _ _ _ _ es => 1 + nodesL es
def nodesL : List J → Nat | [] => 0 | e :: es => e.nodes + nodesL es
end
mutual
def J.depth : J → Nat | .mk _ _ _ _ es => 1 + depthL es
def depthL : List J → Nat | [] => 0 | e :: es => max e.depth (depthL es)
end
def wf (u : ByteArray → Bool) (k n : Int) (t : ByteArray) (ns : List ByteArray) (len : Nat) : Bool :=
 decide ((if k = 2 then -9007199254740991 else 0) ≤ n ∧ n ≤ (if k = 1 then 1 else if k = 2 then 9007199254740991 else 0)) && decide (t ≠ ⟨#[]⟩ → k = 3) && decide (0 < len → k = 4 ∨ k = 5) && decide (k = 5 → ns.length = len ∧ ns.Nodup) && decide (k ≠ 5 → ns = []) && u t && ns.all u
mutual
def J.vd (u : ByteArray → Bool) : J → Int
 | .mk k n t ns es => if k < 0 ∨ 6 ≤ k then 7 else if wf u k n t ns es.length = false then 3 else vdL u es
def vdL (u : ByteArray → Bool) : List J → Int
 | [] => 0
 | e :: es => if e.vd u ≠ 0 then e.vd u else vdL u es
end
def J.valid (u : ByteArray → Bool) (j : J) : Int := if j.nodes ≤ 400 ∧ j.depth ≤ 20 then j.vd u else 2
def cp (k : Int) (ns : List ByteArray) (b : J) (i : Nat) : Option J :=
 if k ≠ 5 then b.elems[i]? else
 match ns[i]? with
 | none => none
 | some s => b.elems[b.names.findIdx (· = s)]?
mutual
def J.eq : J → J → Bool
 | .mk k n t ns es, b => decide (k = b.kind ∧ n = b.num ∧ t = b.text ∧ es.length = b.elems.length ∧ ns.length = b.names.length) && eqL k ns b 0 es
def eqL (k : Int) (ns : List ByteArray) (b : J) : Nat → List J → Bool
 | _, [] => true
 | i, e :: es => (match cp k ns b i with | none => false | some b' => e.eq b') && eqL k ns b (i + 1) es
end
theorem nodesL_app (a b : List J) : nodesL (a ++ b) = nodesL a + nodesL b := by
 induction a with
 | nil => simp [nodesL]
 | cons e a ih => rw [List.cons_append, nodesL, nodesL, ih]; omega
theorem nodesL_reverse (a : List J) : nodesL a.reverse = nodesL a := by
 induction a with
 | nil => rfl
 | cons e a ih => rw [List.reverse_cons, nodesL_app, ih, nodesL, nodesL, nodesL]; omega
theorem depthL_app (a b : List J) : depthL (a ++ b) = max (depthL a) (depthL b) := by
 induction a with
 | nil => simp [depthL]
 | cons e a ih => rw [List.cons_append, depthL, depthL, ih]; omega
theorem depthL_reverse (a : List J) : depthL a.reverse = depthL a := by
 induction a with
 | nil => rfl
 | cons e a ih => rw [List.reverse_cons, depthL_app, ih, depthL, depthL, depthL]; omega
theorem nodesL_mem {es : List J} {e : J} (h : e ∈ es) : e.nodes ≤ nodesL es := by
 induction es with
 | nil => cases h
 | cons a es ih =>
   rw [nodesL]
   rcases List.mem_cons.1 h with rfl | h
   · omega
   · have := ih h; omega
theorem depthL_mem {es : List J} {e : J} (h : e ∈ es) : e.depth ≤ depthL es := by
 induction es with
 | nil => cases h
 | cons a es ih =>
   rw [depthL]
   rcases List.mem_cons.1 h with rfl | h
   · omega
   · have := ih h; omega
theorem vdL_zero {u : ByteArray → Bool} {es : List J} : vdL u es = 0 ↔ ∀ e ∈ es, e.vd u = 0 := by
 induction es with
 | nil => simp [vdL]
 | cons e es ih =>
   rw [vdL]
   by_cases h : e.vd u = 0
   · rw [if_neg (by simp [h]), ih]
     simp [h]
   · rw [if_pos h]
     simp [h]
theorem vd_zero {u : ByteArray → Bool} {k n : Int} {t : ByteArray} {ns : List ByteArray} {es : List J} : (J.mk k n t ns es).vd u = 0 ↔ (0 ≤ k ∧ k < 6) ∧ wf u k n t ns es.length = true ∧ ∀ e ∈ es, e.vd u = 0 := by
 rw [J.vd]
 by_cases h : k < 0 ∨ 6 ≤ k
 · rw [if_pos h]
   constructor
   · intro h'; cases h'
   · rintro ⟨h', _⟩; omega
 · rw [if_neg h]
   by_cases h2 : wf u k n t ns es.length = false
   · rw [if_pos h2, h2]
     constructor
     · intro h'; cases h'
     · rintro ⟨_, h', _⟩; cases h'
   · rw [if_neg h2, vdL_zero]
     have : wf u k n t ns es.length = true := by simpa using h2
     rw [this]
     constructor
     · exact fun h' => ⟨by omega, rfl, h'⟩
     · exact fun h' => h'.2.2
theorem wf_rev {u : ByteArray → Bool} {k n : Int} {t : ByteArray} {ns : List ByteArray} {len : Nat} (h : wf u k n t ns len = true) : wf u k n t ns.reverse len = true := by
 unfold wf at h ⊢
 simp only [Bool.and_eq_true, decide_eq_true_eq, List.length_reverse, List.all_reverse] at h ⊢
 obtain ⟨⟨⟨⟨⟨⟨h1, h2⟩, h3⟩, h4⟩, h5⟩, h6⟩, h7⟩ := h
 exact ⟨⟨⟨⟨⟨⟨h1, h2⟩, h3⟩, fun hk => ⟨(h4 hk).1, nodup_rev (h4 hk).2⟩⟩, fun hk => by rw [h5 hk]; rfl⟩, h6⟩, h7⟩
theorem valid_parts {u : ByteArray → Bool} {j : J} (h : j.valid u = 0) : j.nodes ≤ 400 ∧ j.depth ≤ 20 ∧ j.vd u = 0 := by
 unfold J.valid at h
 split at h
 · rename_i hl; exact ⟨hl.1, hl.2, h⟩
 · cases h
theorem eqL_all {k : Int} {ns : List ByteArray} {b : J} {es : List J} {i : Nat} (h : ∀ j (hj : j < es.length), ∃ b', cp k ns b (i + j) = some b' ∧ es[j].eq b' = true) : eqL k ns b i es = true := by
 induction es generalizing i with
 | nil => rfl
 | cons e es ih =>
   obtain ⟨b', h1, h2⟩ := h 0 (by simp)
   rw [eqL, show cp k ns b i = some b' from h1]
   simp only [Bool.and_eq_true]
   refine ⟨h2, ih fun j hj => ?_⟩
   obtain ⟨b'', h3, h4⟩ := h (j + 1) (by simpa using hj)
   exact ⟨b'', by rw [show i + 1 + j = i + (j + 1) by omega]; exact h3, h4⟩
theorem findIdx_nodup {ns : List ByteArray} (hn : ns.Nodup) {i : Nat} (hi : i < ns.length) : ns.findIdx (· = ns[i]) = i := by
 have h1 : ns.findIdx (· = ns[i]) < ns.length := List.findIdx_lt_length_of_exists ⟨ns[i], List.getElem_mem _, by simp⟩
 have h2 := List.findIdx_getElem (w := h1)
 simp only [decide_eq_true_eq] at h2
 exact nodup_inj hn h1 hi h2
theorem wf_obj {u : ByteArray → Bool} {n : Int} {t : ByteArray} {ns : List ByteArray} {len : Nat} (h : wf u 5 n t ns len = true) : ns.length = len ∧ ns.Nodup := by
 unfold wf at h
 simp only [Bool.and_eq_true, decide_eq_true_eq] at h
 exact h.1.1.1.2 trivial
theorem eq_self {u : ByteArray → Bool} : ∀ j : J, j.vd u = 0 → j.eq j = true := by
 refine J.ind fun k n t ns es ih h => ?_
 obtain ⟨h1, h2, h3⟩ := vd_zero.1 h
 rw [J.eq]
 simp only [J.kind, J.num, J.text, J.elems, J.names, and_self, decide_true, Bool.true_and]
 refine eqL_all fun j hj => ⟨es[j], ?_, ih _ (List.getElem_mem _) (h3 _ (List.getElem_mem _))⟩
 unfold cp
 rw [Nat.zero_add]
 by_cases hk : k = 5
 · subst hk
   obtain ⟨a, b⟩ := wf_obj h2
   rw [if_neg (by simp), List.getElem?_eq_getElem (show j < ns.length by omega)]
   simp only [J.names, J.elems]
   rw [findIdx_nodup b, List.getElem?_eq_getElem hj]
 · rw [if_pos hk]
   simp only [J.elems]
   rw [List.getElem?_eq_getElem hj]
def J.equal (u : ByteArray → Bool) (a b : J) : Bool := decide (a.valid u = 0) && decide (b.valid u = 0) && a.eq b
end Go.Proofs.YtjlknaahpjiibaaGreatDoor.Jv
