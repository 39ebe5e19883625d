/- Part of the proof of topCrashedLaw_holds. -/
import Derived.Lib.LazyBuf
import Derived.Lib.SliceRun
import Derived.Maps.AppendAt
import Derived.Test.YtjlknaahpjiibaaGreatDoorQaz
import Derived.Test.YtjlknaahpjiibaaGreatDoorQba
namespace Go.Proofs.YtjlknaahpjiibaaGreatDoor.Jv
open List (getElem_toArray getElem_cons_zero getElem_cons_succ setIfInBounds_toArray set_cons_zero set_cons_succ)
open Go.RowKit Go.ChangeMaps Go.MapKept
set_option linter.unusedVariables false
set_option linter.unusedSimpArgs false
structure Ev where
 k : Int
 n : Int
 t : ByteArray
 na : Option Addr
 nl : Nat
 nc : Nat
 ia : Option Addr
 il : Nat
 ic : Nat
def Ev.cells (e : Ev) : List Value := [.int .i64 e.k, .int .i64 e.n, .string e.t, .slice e.na e.nl e.nc, .slice e.ia e.il e.ic]
def Ev.val (e : Ev) : Value := .agg #[.int .i64 e.k, .int .i64 e.n, .string e.t, .slice e.na e.nl e.nc, .slice e.ia e.il e.ic]
def ev0 : Ev := ⟨0, 0, ⟨#[]⟩, none, 0, 0, none, 0, 0⟩
instance : Inhabited Ev := ⟨ev0⟩
theorem JV.ev {p : Nat → Prop} {f : Nat} {w : World} {v : Value} {j : J} (h : JV p f w v j) : ∃ e : Ev, v = e.val ∧ e.k = j.kind ∧ e.n = j.num ∧ e.t = j.text ∧ e.nl = j.names.length ∧ e.il = j.elems.length := by
 obtain ⟨na, nc, ia, ic, rfl, _⟩ := h.shape
 exact ⟨⟨_, _, _, na, _, nc, ia, _, ic⟩, rfl, rfl, rfl, rfl, rfl, rfl⟩
def evCells (l : List Ev) : List Value := l.flatMap Ev.cells
theorem evCells_cons (e : Ev) (l : List Ev) : evCells (e :: l) = e.cells ++ evCells l := by simp [evCells]
theorem evCells_append (l m : List Ev) : evCells (l ++ m) = evCells l ++ evCells m := by simp [evCells, List.flatMap_append]
theorem evCells_one (e : Ev) : evCells [e] = e.cells := by simp [evCells]
theorem evCells_oneCell (l : List Ev) : ∀ u ∈ evCells l, u.oneCell' = true := by
 intro u hu
 simp only [evCells, Ev.cells, List.mem_flatMap, List.mem_cons, List.not_mem_nil, or_false] at hu
 obtain ⟨e, _, h | h | h | h | h⟩ := hu <;> subst h <;> rfl
theorem evCells_get (xs : List Ev) : ∀ (j : Nat) (h : j < xs.length) (c : Nat) (hc : c < 5), (evCells xs)[j * 5 + c]? = (xs[j].cells)[c]? := by
 induction xs with
 | nil => intro j h; simp at h
 | cons x r ih =>
   intro j h c hc
   rw [evCells_cons]
   cases j with
   | zero => rw [List.getElem?_append_left (by simp [Ev.cells]; omega)]; simp
   | succ j =>
     have h' := ih j (by simpa using h) c hc
     rw [List.getElem?_append_right (by simp [Ev.cells]; omega)]
     have : (j + 1) * 5 + c - x.cells.length = j * 5 + c := by simp only [Ev.cells, List.length_cons, List.length_nil]; omega
     rw [this, h']
     simp
def OwnE (w : World) (base : Nat) (v : Value) (l : List Ev) : Prop := w.ownsRow base 59 5 v l.length (evCells l)
theorem OwnE.nil (w : World) (base : Nat) : OwnE w base (.slice none 0 0) [] := ⟨rfl, .inl ⟨rfl, rfl⟩⟩
theorem OwnE.kept {w w' : World} {base : Nat} {v : Value} {xs : List Ev} {S : Nat → Prop} (h : OwnE w base v xs) (hc : ChgP S w w') (hS : ∀ g, v.ownBlock = some g → ¬ S g) : OwnE w' base v xs :=
 ownsRow_kept h fun g hg hl => hc.block g hl (hS g hg)
theorem OwnE.same {w w' : World} {base : Nat} {v : Value} {xs : List Ev} (h : OwnE w base v xs) (hc : Chg [] w w') : OwnE w' base v xs := h.kept (hc.p (S := fun _ => False)) fun _ _ h => h
theorem OwnE.cell {w : World} {base g n cap : Nat} {l : List Ev} (h : OwnE w base (.slice (some ⟨g, 0, none⟩) n cap) l) {j : Nat} (hj : j < l.length) {c : Nat} {u : Value} (hu : (l[j].cells)[c]? = some u) (hc : c < 5) : w.cell? ⟨g, j * 5 + c, none⟩ = some u := by
 rw [← evCells_get l j hj c hc] at hu
 have := World.ownsRow.cells h (g := g) rfl _ _ hu
 rwa [Addr.add_lit, Nat.zero_add] at this
theorem OwnE.read {p : Nat → Prop} {f : Nat} {w : World} {base : Nat} {v : Value} {l : List Ev} {xs : List J} (h : OwnE w base v l) (hl : l.length = xs.length) (hp : ∀ g, v.ownBlock = some g → p g) (hx : ∀ i (hi : i < l.length), JV p f w l[i].val (xs.getD i J.zero)) : SlR p 5 (rdJ p (f + 1)) w v xs := by
 obtain ⟨a, cap, rfl⟩ := ownsRow_shape h
 rcases h.2 with ⟨hv, hx0⟩ | ⟨g, cap', cur', hv, hge, hh, h3, h4, h5, h6⟩
 · have hk : xs = [] := List.eq_nil_of_length_eq_zero (by omega)
   subst hk
   simp only [Value.slice.injEq] at hv
   obtain ⟨rfl, _, rfl⟩ := hv
   rw [hx0]
   exact SlR.nil _ _ _ _
 · cases hv
   refine ⟨_, cap, by rw [hl], by omega, by omega, fun _ => ⟨g, 0, rfl, hp g rfl, fun j hj => ?_⟩⟩
   have hj' : j < l.length := by omega
   have hx1 := hx j hj'
   rw [List.getD_eq_getElem?_getD, List.getElem?_eq_getElem hj, Option.getD_some] at hx1
   obtain ⟨nv, iv, he, hn, hi, ht⟩ := hx1
   simp only [Ev.val, Value.agg.injEq, Array.mk.injEq, List.cons.injEq, and_true] at he
   obtain ⟨e0, e1, e2, e3, e4⟩ := he
   have c0 := h.cell hj' (c := 0) rfl (by decide)
   have c1 := h.cell hj' (c := 1) rfl (by decide)
   have c2 := h.cell hj' (c := 2) rfl (by decide)
   have c3 := h.cell hj' (c := 3) rfl (by decide)
   have c4 := h.cell hj' (c := 4) rfl (by decide)
   rw [e0] at c0
   rw [e1] at c1
   rw [e2] at c2
   rw [e3] at c3
   rw [e4] at c4
   rw [Nat.zero_add]
   exact ⟨c0, c1, ⟨c2, ht⟩, nv, iv, c3, c4, hn, hi⟩
theorem infoJ : (Tryz.prog.info? 59).map (fun i => (i.zero, i.size, i.bytes)) = some (some (.agg #[.int .i64 0, .int .i64 0, .string ⟨#[]⟩, .slice none 0 0, .slice none 0 0]), 5, 80) := by kernel_rfl
theorem run_append_ev (w : World) (ty : TypeId) (B : Nat) (v : Value) (l : List Ev) (e : Ev) (n : Nat) (hv : OwnE w B v l) (hb : w.heap[n]? = some (.cells #[.int .i64 e.k, .int .i64 e.n, .string e.t, .slice e.na e.nl e.nc, .slice e.ia e.il e.ic] 59 (0, 0))) (hlen : (l.length + 1) * 80 ≤ 140737488355328) (hB : B ≤ w.heap.size) :
 ∃ v' w', (Builtin.append_ #[57, 57] ty #[v, .slice (some ⟨n, 0, none⟩) 1 1]).run Tryz.prog w = .ok v' w' ∧ OwnE w' B v' (l ++ [e]) ∧ Chg v.ownBlock.toList w w' ∧ (v'.ownBlock = v.ownBlock ∨ v'.ownBlock = some w.heap.size) := by
 obtain ⟨i0, hi, hz0, hz1, hz2⟩ := info_parts infoJ
 obtain ⟨v', w', hr, h2, h3, _, h5⟩ := run_append_own_at (P := Tryz.prog) w B 57 ty 59 i0 (.agg #[.int .i64 0, .int .i64 0, .string ⟨#[]⟩, .slice none 0 0, .slice none 0 0]) 5 80 Tryz.underlying57 hi hz0 hz1 hz2 rfl (by decide) v l.length (evCells l) hv ⟨n, 0, none⟩ 1 1 e.cells rfl (fun j u hj => by
  rw [Addr.add_lit, Nat.zero_add]
  refine cell_of_heap hb ?_
  match j with
  | 0 => simpa [Ev.cells] using hj
  | 1 => simpa [Ev.cells] using hj
  | 2 => simpa [Ev.cells] using hj
  | 3 => simpa [Ev.cells] using hj
  | 4 => simpa [Ev.cells] using hj
  | j + 5 => simp [Ev.cells] at hj) (fun u hu => evCells_oneCell [e] u (by rw [evCells_one]; exact hu)) (by unfold maxLen; omega) (by omega) hB
 refine ⟨v', w', hr, ?_, (Chg.refl _ w).grown h3 (by intro k hk; left; simp [hk]), h5⟩
 unfold OwnE
 rw [evCells_append, evCells_one, List.length_append]
 exact h2
def ssk (l : List ByteArray) : List Value := l.map sk
theorem ssk_one (l : List ByteArray) : ∀ u ∈ ssk l, u.oneCell' = true := by
 intro u hu
 obtain ⟨x, _, rfl⟩ := List.mem_map.1 hu
 rfl
def OwnN (w : World) (base : Nat) (v : Value) (l : List ByteArray) : Prop := w.ownsRow base 9 1 v l.length (ssk l) ∧ ∀ s ∈ l, s.size ≤ maxLen
theorem OwnN.nil (w : World) (base : Nat) : OwnN w base (.slice none 0 0) [] := ⟨⟨rfl, .inl ⟨rfl, rfl⟩⟩, by simp⟩
theorem OwnN.kept {w w' : World} {base : Nat} {v : Value} {xs : List ByteArray} {S : Nat → Prop} (h : OwnN w base v xs) (hc : ChgP S w w') (hS : ∀ g, v.ownBlock = some g → ¬ S g) : OwnN w' base v xs :=
 ⟨ownsRow_kept h.1 fun g hg hl => hc.block g hl (hS g hg), h.2⟩
theorem OwnN.same {w w' : World} {base : Nat} {v : Value} {xs : List ByteArray} (h : OwnN w base v xs) (hc : Chg [] w w') : OwnN w' base v xs := h.kept (hc.p (S := fun _ => False)) fun _ _ h => h
theorem OwnN.read {p : Nat → Prop} {w : World} {base : Nat} {v : Value} {l : List ByteArray} (h : OwnN w base v l) (hp : ∀ g, v.ownBlock = some g → p g) : SlR p 1 rdS w v l := by
 obtain ⟨a, cap, rfl⟩ := ownsRow_shape h.1
 rcases h.1.2 with ⟨hv, hx⟩ | ⟨g, cap', cur', hv, hge, hh, h3, h4, h5, h6⟩
 · have hk : l = [] := List.eq_nil_of_length_eq_zero hx
   subst hk
   simp only [List.length_nil, Value.slice.injEq] at hv
   obtain ⟨rfl, _, rfl⟩ := hv
   exact SlR.nil _ _ _ _
 · cases hv
   refine ⟨_, cap, rfl, by omega, by omega, fun _ => ⟨g, 0, rfl, hp g rfl, fun j hj => ⟨?_, h.2 _ (List.getElem_mem hj)⟩⟩⟩
   have := World.ownsRow.cells h.1 (g := g) rfl j (sk l[j]) (by unfold ssk; rw [List.getElem?_map, List.getElem?_eq_getElem hj]; rfl)
   rw [Addr.add_lit, Nat.zero_add] at this
   rw [Nat.zero_add, Nat.mul_one]
   exact this
theorem rdS_size {p : Nat → Prop} {w : World} {v : Value} {l : List ByteArray} (h : SlR p 1 rdS w v l) : ∀ s ∈ l, s.size ≤ maxLen := by
 intro s hs
 obtain ⟨a, cap, _, _, _, h3⟩ := h
 obtain ⟨i, hi, rfl⟩ := List.getElem_of_mem hs
 obtain ⟨g, off, _, _, hc⟩ := h3 (by omega)
 exact (hc i hi).2
theorem infoS : (Tryz.prog.info? 9).map (fun i => (i.zero, i.size, i.bytes)) = some (some (.string ⟨#[]⟩), 1, 16) := by kernel_rfl
set_option maxHeartbeats 1000000 in
theorem nclone_any (p : Nat → Prop) (w : World) (v : Value) (l : List ByteArray) (h : SlR p 1 rdS w v l) (hl : l.length * 16 ≤ 140737488355328) :
 Calls Tryz.prog 165 #[v] w fun e w' => ∃ v', e = .returned v' ∧ OwnN w' w.heap.size v' l ∧ Chg [] w w' := by
 have hsz := rdS_size h
 obtain ⟨a, cap, rfl, h1, h2, h3⟩ := h
 cases a with
 | none =>
   have h0 : l = [] := by
    rcases l with _ | ⟨k, r⟩
    · rfl
    · obtain ⟨g, off, e, _⟩ := h3 (by simp)
      cases e
   subst h0
   have hnil := fun w : World => Lib.run_eql_slice_nil (P := Tryz.prog) w 22 9 none 0 cap 0 0 Tryz.underlying22
   clear h1 h2 h3 hsz
   go_enter Tryz.func165, Tryz.ntmps165
   go_wp2_with fail
   go_ret
   exact ⟨_, rfl, OwnN.nil _ _, Chg.refl _ _⟩
 | some ad =>
   obtain ⟨i0, hi, hz0, hz1, hz2⟩ := info_parts infoS
   have hnil := fun w : World => Lib.run_eql_slice_nil (P := Tryz.prog) w 22 9 (some ad) l.length cap 0 0 Tryz.underlying22
   have hcs : ∀ j u, (ssk l)[j]? = some u → (w.alloc (.cells #[] 9)).cell? (ad.add j) = some u := by
    intro j u hu
    have hjl : j < l.length := by
     rcases Nat.lt_or_ge j l.length with h | h
     · exact h
     · rw [List.getElem?_eq_none (by simpa [ssk] using h)] at hu; cases hu
    obtain ⟨g, off, e, _, hc⟩ := h3 (by omega)
    cases e
    have h1 := (hc j hjl).1
    unfold ssk at hu
    rw [List.getElem?_map, List.getElem?_eq_getElem hjl] at hu
    cases hu
    rw [Nat.mul_one] at h1
    rw [Addr.add_lit, World.cell?_alloc_past _ _ _ (lt_of_cell h1), h1]
    rfl
   have Hcs := Lib.hid hcs
   have Hsz := Lib.hid hsz
   clear hcs h3 hsz
   go_enter Tryz.func165, Tryz.ntmps165
   go_wp2_with (at_builtin; refine wpList_append_own _ rfl _ _ 22 rfl w.heap.size 9 i0 (.string ⟨#[]⟩) 1 16 Tryz.underlying22 hi hz0 hz1 hz2 rfl (by decide) (.slice (some ⟨w.heap.size, 0, none⟩) 0 0) 0 [] rfl (World.ownsRow_made w #[] 0 (Nat.le_refl _) (Nat.zero_le _) rfl) ad l.length cap (ssk l) rfl (by simp [ssk]) Hcs.out (ssk_one l) (by unfold maxLen; omega) (by omega) (by simp) ?_; intro v' w1 hown hgr _)
   go_ret
   simp only [Nat.zero_add, List.nil_append] at hown
   exact ⟨v', rfl, ⟨hown, Hsz.out⟩, ((Chg.refl [] w).alloc _).grown hgr (by simp [Value.ownBlock])⟩
abbrev JN (B f : Nat) (w : World) (v : Value) (j : J) : Prop := JV (fun g => B ≤ g ∧ g < w.heap.size) f w v j
theorem JN.same {B f : Nat} {w w' : World} {v : Value} {j : J} (h : JN B f w v j) (hc : Chg [] w w') : JN B f w' v j :=
 (h.kept (S := fun _ => False) hc.p (fun _ _ h => h)).imp fun g hg => ⟨hg.1, Nat.lt_of_lt_of_le hg.2 hc.size⟩
theorem JN.base {B B' f : Nat} {w : World} {v : Value} {j : J} (h : JN B f w v j) (hb : B' ≤ B) : JN B' f w v j := h.imp fun g hg => ⟨Nat.le_trans hb hg.1, hg.2⟩
def JRow (B f : Nat) (w : World) (v : Value) (xs : List J) : Prop :=
 ∃ es : List Ev, es.length = xs.length ∧ OwnE w B v es ∧ ∀ i (hi : i < es.length), JV (fun g => (B ≤ g ∧ g < w.heap.size) ∧ v.ownBlock ≠ some g) f w es[i].val (xs.getD i J.zero)
theorem JRow.nil (B f : Nat) (w : World) : JRow B f w (.slice none 0 0) [] := ⟨[], rfl, OwnE.nil _ _, fun i hi => absurd hi (by simp)⟩
theorem JRow.same {B f : Nat} {w w' : World} {v : Value} {xs : List J} (h : JRow B f w v xs) (hc : Chg [] w w') : JRow B f w' v xs := by
 obtain ⟨es, h1, h2, h3⟩ := h
 exact ⟨es, h1, h2.same hc, fun i hi => ((h3 i hi).kept (S := fun _ => False) hc.p (fun _ _ h => h)).imp fun g hg => ⟨⟨hg.1.1, Nat.lt_of_lt_of_le hg.1.2 hc.size⟩, hg.2⟩⟩
theorem JRow.kept {B f : Nat} {w w' : World} {S : Nat → Prop} {v : Value} {xs : List J} (h : JRow B f w v xs) (hc : ChgP S w w') (hS : ∀ g, S g → g < B) : JRow B f w' v xs := by
 obtain ⟨es, h1, h2, h3⟩ := h
 exact ⟨es, h1, h2.kept hc fun g hg hs => by have := (ownsRow_ge h2 hg).1; have := hS g hs; omega, fun i hi => ((h3 i hi).kept hc (fun g hg hs => by have := hS g hs; have := hg.1.1; omega)).imp fun g hg => ⟨⟨hg.1.1, Nat.lt_of_lt_of_le hg.1.2 hc.size⟩, hg.2⟩⟩
theorem JRow.own {B f : Nat} {w : World} {v : Value} {xs : List J} (h : JRow B f w v xs) {g : Nat} (hg : v.ownBlock = some g) : B ≤ g ∧ g < w.heap.size := by
 obtain ⟨es, h1, h2, h3⟩ := h
 exact ownsRow_ge h2 hg
theorem JRow.read {B f : Nat} {w : World} {v : Value} {xs : List J} (h : JRow B f w v xs) : SlR (fun g => B ≤ g ∧ g < w.heap.size) 5 (rdJ (fun g => B ≤ g ∧ g < w.heap.size) (f + 1)) w v xs := by
 obtain ⟨es, h1, h2, h3⟩ := h
 exact h2.read h1 (fun g hg => ownsRow_ge h2 hg) fun i hi => (h3 i hi).imp fun g hg => hg.1
theorem JRow.push {B f : Nat} {w : World} {v : Value} {xs : List J} (h : JRow B f w v xs) {e : Ev} {x : J} {n : Nat} (ty : TypeId) (hb : w.heap[n]? = some (.cells #[.int .i64 e.k, .int .i64 e.n, .string e.t, .slice e.na e.nl e.nc, .slice e.ia e.il e.ic] 59 (0, 0)))
 (hx : JV (fun g => (B ≤ g ∧ g < w.heap.size) ∧ v.ownBlock ≠ some g) f w e.val x) (hlen : (xs.length + 1) * 80 ≤ 140737488355328) (hB : B ≤ w.heap.size) :
 ∃ a cap w', (Builtin.append_ #[57, 57] ty #[v, .slice (some ⟨n, 0, none⟩) 1 1]).run Tryz.prog w = .ok (.slice a (xs.length + 1) cap) w' ∧ JRow B f w' (.slice a (xs.length + 1) cap) (xs ++ [x]) ∧ Chg v.ownBlock.toList w w' ∧ ((Value.slice a (xs.length + 1) cap).ownBlock = v.ownBlock ∨ (Value.slice a (xs.length + 1) cap).ownBlock = some w.heap.size) := by
 obtain ⟨es, h1, h2, h3⟩ := h
 obtain ⟨v', w', hr, ho, hc, hob⟩ := run_append_ev w ty B v es e n h2 hb (by omega) hB
 have hsh := ownsRow_shape ho
 rw [List.length_append, List.length_singleton, h1] at hsh
 obtain ⟨a, cap, rfl⟩ := hsh
 have key : ∀ (y : Ev) (z : J), JV (fun g => (B ≤ g ∧ g < w.heap.size) ∧ v.ownBlock ≠ some g) f w y.val z → JV (fun g => (B ≤ g ∧ g < w'.heap.size) ∧ (Value.slice a (xs.length + 1) cap).ownBlock ≠ some g) f w' y.val z := fun y z hz => by
  refine (hz.kept hc.toP fun g hg hm => ?_).imp fun g hg => ⟨⟨hg.1.1, Nat.lt_of_lt_of_le hg.1.2 hc.size⟩, fun e => ?_⟩
  · exact hg.2 (by simpa using hm)
  · rcases hob with ho | ho
    · exact hg.2 (ho.symm.trans e)
    · rw [ho] at e
      cases e
      exact Nat.lt_irrefl _ hg.1.2
 refine ⟨a, cap, w', hr, ⟨es ++ [e], by simp [h1], ho, fun i hi => ?_⟩, hc, hob⟩
 by_cases hil : i < es.length
 · rw [List.getElem_append_left hil, List.getD_eq_getElem?_getD, List.getElem?_append_left (by omega), ← List.getD_eq_getElem?_getD]
   exact key _ _ (h3 i hil)
 · have hi' : i = es.length := by simp at hi; omega
   subst hi'
   rw [List.getElem_append_right (Nat.le_refl _), List.getD_eq_getElem?_getD, List.getElem?_append_right (by omega)]
   simp only [h1, Nat.sub_self, List.getElem_singleton, List.getElem?_cons_zero, Option.getD_some]
   exact key _ _ hx
theorem JN.mk {B f : Nat} {w : World} {k n : Int} {t : ByteArray} {ns : List ByteArray} {es : List J} {nv iv : Value} (hn : SlR (fun g => B ≤ g ∧ g < w.heap.size) 1 rdS w nv ns) (hi : SlR (fun g => B ≤ g ∧ g < w.heap.size) 5 (rdJ (fun g => B ≤ g ∧ g < w.heap.size) f) w iv es) (ht : t.size ≤ maxLen) : JN B f w (.agg #[.int .i64 k, .int .i64 n, .string t, nv, iv]) (.mk k n t ns es) :=
 ⟨nv, iv, rfl, hn, hi, ht⟩
def ClonePost (j : J) (f : Nat) (w : World) (e : Ending) (w' : World) : Prop := ∃ v', e = .returned v' ∧ JN w.heap.size f w' v' j ∧ Chg [] w w'
theorem JV.mono {p : Nat → Prop} {w : World} : ∀ {f f' : Nat} {ad : Addr} {j : J}, f ≤ f' → rdJ p f w ad j → rdJ p f' w ad j := by
 intro f
 induction f with
 | zero => intro f' ad j _ h; exact h.elim
 | succ f ih =>
   intro f' ad j hf h
   obtain ⟨f'', rfl⟩ : ∃ f'', f' = f'' + 1 := ⟨f' - 1, by omega⟩
   obtain ⟨h0, h1, h2, nv, iv, h3, h4, h5, h6⟩ := h
   exact ⟨h0, h1, h2, nv, iv, h3, h4, h5, SlR.imp h6 (fun _ h => h) fun ad x _ hx => ih (by omega) hx⟩
theorem JV.more {p : Nat → Prop} {w : World} {f f' : Nat} {v : Value} {j : J} (hf : f ≤ f') (h : JV p f w v j) : JV p f' w v j := by
 obtain ⟨nv, iv, rfl, h1, h2, h3⟩ := h
 exact ⟨nv, iv, rfl, h1, SlR.imp h2 (fun _ h => h) fun ad x _ hx => JV.mono hf hx, h3⟩
theorem JV.ev' {p : Nat → Prop} {f : Nat} {w : World} {v : Value} {j : J} (h : JV p f w v j) : ∃ e : Ev, v = e.val := by
 obtain ⟨e, h, _⟩ := h.ev
 exact ⟨e, h⟩
theorem wp_append_run {P : Program} {o : Oper} {a : Act} {w : World} {K : Act → World → Prop} {Q : Exit → Act → World → Prop} (s x : Operand) (t : TypeId)
 (ho : o.op = .call { callee := .builtin .append, args := #[s, x], argTypes := #[t, t] }) (v vx v' : Value) (w' : World) (hs : a.eval s = v) (hx : a.eval x = vx)
 (hr : (Builtin.append_ #[t, t] o.type #[v, vx]).run P w = .ok v' w') (h : K (a.put o.dst v') w') : Oper.wp P o a w K Q := by
 unfold Oper.wp execOp
 simp only [ho, resolve, invoke, builtin, Sem.run_bind, Sem.run_pure, Result.andThen_ok, List.map_toArray, List.map_cons, List.map_nil, hs, hx, hr]
 exact h
structure CL (w wr : World) (f : Nat) (kd n : Int) (t : ByteArray) (nv' iv : Value) (b : Nat) (ns : List ByteArray) (xs : List J) : Prop where
 box : wr.heap[b]? = some (.cells #[.int .i64 kd, .int .i64 n, .string t, nv', iv] 59 (0, 0))
 row : JRow (b + 2) f wr iv xs
 nms : SlR (fun g => (b + 2 ≤ g ∧ g < wr.heap.size) ∧ iv.ownBlock ≠ some g) 1 rdS wr nv' ns
 chg : Chg [] w wr
 res : wr.heap[b + 1]? = some (.cells #[.int .i64 0, .int .i64 0, .string ⟨#[]⟩, .slice none 0 0, .slice none 0 0] 59 (0, 0))
def Sm (j : J) : Prop := j.vd u8 = 0 ∧ j.nodes ≤ 400
theorem elems_le (es : List J) : es.length ≤ nodesL es := by
 induction es with
 | nil => simp
 | cons e es ih =>
   rw [nodesL, List.length_cons]
   have : 1 ≤ e.nodes := by obtain ⟨k, n, t, ns, l⟩ := e; rw [J.nodes]; omega
   omega
theorem Sm.len {k n : Int} {t : ByteArray} {ns : List ByteArray} {es : List J} (h : Sm (.mk k n t ns es)) : ns.length ≤ 400 ∧ es.length ≤ 400 := by
 obtain ⟨h1, h2⟩ := h
 obtain ⟨_, hw, _⟩ := vd_zero.1 h1
 rw [J.nodes] at h2
 have h3 := elems_le es
 unfold wf at hw
 simp only [Bool.and_eq_true, decide_eq_true_eq] at hw
 obtain ⟨⟨⟨⟨_, h4⟩, h5⟩, _⟩, _⟩ := hw
 by_cases hk : k = 5
 · have := (h4 hk).1; omega
 · rw [h5 hk]; simp; omega
theorem Sm.elem {k n : Int} {t : ByteArray} {ns : List ByteArray} {es : List J} (h : Sm (.mk k n t ns es)) {e : J} (he : e ∈ es) : Sm e := by
 obtain ⟨h1, h2⟩ := h
 refine ⟨(vd_zero.1 h1).2.2 e he, ?_⟩
 rw [J.nodes] at h2
 have := nodesL_mem he
 omega
inductive Bd : J → Prop where
 | mk {k n : Int} {t : ByteArray} {ns : List ByteArray} {es : List J} (hn : ns.length * 16 ≤ 140737488355328) (hl : es.length * 80 ≤ 140737488355328) (he : ∀ e ∈ es, Bd e) : Bd (.mk k n t ns es)
theorem Bd.len {k n : Int} {t : ByteArray} {ns : List ByteArray} {es : List J} (h : Bd (.mk k n t ns es)) : ns.length * 16 ≤ 140737488355328 ∧ es.length * 80 ≤ 140737488355328 := by
 cases h with | mk h1 h2 _ => exact ⟨h1, h2⟩
theorem Bd.elem {k n : Int} {t : ByteArray} {ns : List ByteArray} {es : List J} (h : Bd (.mk k n t ns es)) {e : J} (he : e ∈ es) : Bd e := by
 cases h with | mk _ _ h3 => exact h3 e he
theorem Sm.bd : ∀ j : J, Sm j → Bd j := by
 refine J.ind fun k n t ns es ih h => ?_
 have hl := h.len
 exact .mk (by omega) (by omega) fun e he => ih e he (h.elem he)
theorem Sm.of {j : J} (h : j.valid u8 = 0) : Sm j := ⟨(valid_parts h).2.2, (valid_parts h).1⟩
set_option maxRecDepth 100000 in
set_option maxHeartbeats 8000000 in
theorem clone_step (p : Nat → Prop) (f : Nat)
 (ih : ∀ f', f' < f → ∀ (w : World) (j : J) (v : Value), JV p f' w v j → Bd j → Calls Tryz.prog 178 #[v] w (ClonePost j (f' + 1) w))
 (w : World) (j : J) (v : Value) (hj : JV p f w v j) (hs : Bd j) :
 Calls Tryz.prog 178 #[v] w (ClonePost j (f + 1) w) := by
 obtain ⟨k, n, t, ns, es⟩ := j
 obtain ⟨na, nc, a, cap, rfl, hns, hes, _, ⟨hl1, hl2⟩, hts⟩ := hj.shape
 simp only [J.kind, J.num, J.text, J.names, J.elems] at hns hes hl1 hl2 hts hj ⊢
 have hlen := hs.len
 unfold maxLen at hl2
 obtain ⟨w2, hw2⟩ : ∃ x, x = (w.alloc (.cells #[.int .i64 k, .int .i64 n, .string t, .slice na ns.length nc, .slice a es.length cap] 59)).alloc (.cells #[.int .i64 0, .int .i64 0, .string ⟨#[]⟩, .slice none 0 0, .slice none 0 0] 59) := ⟨_, rfl⟩
 have hc2 : Chg [] w w2 := by rw [hw2]; exact ((Chg.refl [] w).alloc _).alloc _
 obtain ⟨b, hb⟩ : ∃ b, b = w.heap.size := ⟨_, rfl⟩
 have hb2 : w2.heap[b]? = some (.cells #[.int .i64 k, .int .i64 n, .string t, .slice na ns.length nc, .slice a es.length cap] 59 (0, 0)) := by
  rw [hw2, hb, heap_past _ _ _ (by simp)]
  exact heap_at _ _ _ rfl
 have hr2 : w2.heap[b + 1]? = some (.cells #[.int .i64 0, .int .i64 0, .string ⟨#[]⟩, .slice none 0 0, .slice none 0 0] 59 (0, 0)) := by rw [hw2, hb]; exact heap_at _ _ _ (by simp)
 have hsz2 : w2.heap.size = b + 2 := by rw [hw2, hb]; simp
 have Hcl := Lib.hid (nclone_any p w2 _ ns (strs_kept (S := fun _ => False) hns hc2.p (fun _ _ h => h)) (by omega))
 obtain ⟨b0, b1, b2, b3, b4⟩ := box_kept b hb2 (Chg.refl [] w2)
 have Hes := Lib.hid hes
 have Hc2 := Lib.hid hc2
 have Hb2 := Lib.hid (And.intro hb2 (And.intro hr2 (And.intro hsz2 hb)))
 have Hs := Lib.hid hs
 have Hlen := Lib.hid hlen
 have Hts := Lib.hid hts
 have lb := lt_of_cell b0
 have fb := fun i => frozen_of_heap (i := i) hb2
 clear hns hes hc2 hb2 hr2 hsz2 hj hs hlen hts
 go_enter Tryz.func178, Tryz.ntmps178
 go_upto_region 1 with fail
 rw [← hw2, ← hb]
 clear hw2 hb
 go_wp2_with fail
 refine Hcl.out.mono ?_
 rintro e w3 ⟨v3, rfl, ho3, hc3⟩
 obtain ⟨a3, c3, rfl⟩ := ownsRow_shape ho3.1
 have hb3 := (hc3.block b (lt_of_obj Hb2.out.1) (by simp)).trans Hb2.out.1
 have hr3 := (hc3.block (b + 1) (lt_of_obj Hb2.out.2.1) (by simp)).trans Hb2.out.2.1
 obtain ⟨w4, hw4⟩ : ∃ x, x = (w3.setCell ⟨b, 3, none⟩ (.slice a3 ns.length c3)).setCell ⟨b, 4, none⟩ (.slice none 0 0) := ⟨_, rfl⟩
 have hc4 : Chg [b] w3 w4 := by rw [hw4]; exact ((Chg.refl [b] w3).setCell (Or.inl (by simp)) _).setCell (Or.inl (by simp)) _
 have hb4 : w4.heap[b]? = some (.cells #[.int .i64 k, .int .i64 n, .string t, .slice a3 ns.length c3, .slice none 0 0] 59 (0, 0)) := by
  rw [hw4]
  exact heap_setCell_same (heap_setCell_same hb3 _) _
 have hr4 := (hc4.block (b + 1) (lt_of_obj hr3) (by simp)).trans hr3
 have hcw4 : Chg [] w w4 := (Hc2.out.trans hc3).comp hc4 (by intro x hx; right; rw [List.mem_singleton.1 hx]; have := Hb2.out.2.2.2; omega)
 have hsz := Hb2.out.2.2.1
 have ho4 := ho3.kept hc4.toP (fun g hg hm => by have := (ownsRow_ge ho3.1 hg).1; have h' := List.mem_singleton.1 hm; omega)
 have HCL : Hid (CL w w4 f k n t (.slice a3 ns.length c3) (.slice none 0 0) b ns (es.take 0)) := Lib.hid ⟨hb4, JRow.nil _ _ _, ho4.read (fun g hg => by have h' := ownsRow_ge ho4.1 hg; exact ⟨⟨by omega, h'.2⟩, by simp [Value.ownBlock]⟩), hcw4, hr4⟩
 have c33 : w3.cell? ⟨b, 3, none⟩ = some (.slice na ns.length nc) := cell_of_heap hb3 rfl
 have c34 : w3.cell? ⟨b, 4, none⟩ = some (.slice a es.length cap) := cell_of_heap hb3 rfl
 have f33 := fun i => frozen_of_heap (i := i) hb3
 clear hb3 hr3 hc4 hb4 hr4 hcw4 hsz ho4 ho3 hc3 b0 b1 b2 b3 b4 fb
 go_upto_region 3 with fail
 rw [← hw4]
 clear hw4 c33 c34 f33
 go_wp2_with fail
 go_loopw [15] (fun ii wr => ∃ (i : Nat) (ia : Option Addr) (ic : Nat), i ≤ es.length ∧ ii = .int .i64 (i : Nat) ∧ Hid (CL w wr f k n t (.slice a3 ns.length c3) (.slice ia i ic) b ns (es.take i))) (fun ii _ => es.length - (intOf ii).toNat)
 case atStart => exact ⟨0, none, 0, by omega, rfl, HCL⟩
 case round =>
  obtain ⟨i, ia, ic, hi, rfl, HC⟩ := hrel
  by_cases hlt : i < es.length
  · have hij : (i : Int) < es.length := by omega
    have hesr : SlR p 5 (rdJ p f) wr (.slice a es.length cap) es := SlR.imp Hes.out (fun _ h => h) fun ad x hp hx => rdJ.kept (S := fun _ => False) HC.out.chg.p (fun g hg e => e) hp hx
    obtain ⟨g, off, na', nc', ia', ic', rfl, hpg, e0, e1, e2, e3, e4, f', rfl, hjv⟩ := elem_at hesr hlt
    obtain ⟨el, hel⟩ : ∃ el, el = es[i] := ⟨_, rfl⟩
    rw [← hel] at e0 e1 e2 e3 e4 hjv
    have hsm : Bd el := Hs.out.elem (hel ▸ List.getElem_mem hlt)
    have htk : es.take (i + 1) = es.take i ++ [el] := by rw [List.take_add_one, List.getElem?_eq_getElem hlt, hel]; rfl
    obtain ⟨ek, hek⟩ : ∃ x, x = el.kind := ⟨_, rfl⟩
    obtain ⟨en, hen⟩ : ∃ x, x = el.num := ⟨_, rfl⟩
    obtain ⟨et, het⟩ : ∃ x, x = el.text := ⟨_, rfl⟩
    rw [← hek] at e0 hjv
    rw [← hen] at e1 hjv
    rw [← het] at e2 hjv
    obtain ⟨nl, hnl⟩ : ∃ x, x = el.names.length := ⟨_, rfl⟩
    obtain ⟨il, hil⟩ : ∃ x, x = el.elems.length := ⟨_, rfl⟩
    rw [← hnl] at e3 hjv
    rw [← hil] at e4 hjv
    obtain ⟨w5, hw5⟩ : ∃ x, x = wr.alloc (.cells #[.int .i64 ek, .int .i64 en, .string et, .slice na' nl nc', .slice ia' il ic'] 59) := ⟨_, rfl⟩
    obtain ⟨q, hq⟩ : ∃ x, x = wr.heap.size := ⟨_, rfl⟩
    have hc5 : Chg [] wr w5 := by rw [hw5]; exact (Chg.refl _ _).alloc _
    have hb5 : w5.heap[q]? = some (.cells #[.int .i64 ek, .int .i64 en, .string et, .slice na' nl nc', .slice ia' il ic'] 59 (0, 0)) := by rw [hw5, hq]; exact heap_at _ _ _ rfl
    have hbb := (hc5.block b (lt_of_obj HC.out.box) (by simp)).trans HC.out.box
    have hql := lt_of_obj hb5
    have hqb : b < q := by rw [hq]; exact lt_of_obj HC.out.box
    have Hcall := Lib.hid (fun W (hW : Chg [] w5 W) => ih f' (by omega) W el _ (hjv.kept (S := fun _ => False) (hc5.trans hW).p (fun _ _ h => h)) hsm)
    have hrow5 := HC.out.row.same hc5
    have H5 := Lib.hid (And.intro hb5 (And.intro hbb (And.intro hc5 (And.intro hrow5 htk))))
    have Hq := Lib.hid (And.intro hql (And.intro hqb hq))
    clear hesr hel hek hen het hnl hil hjv hpg hsm hb5 hbb hc5 hrow5 htk hql hqb
    go_upto_region 6 with fail
    rw [← hw5, ← hq]
    clear hw5 hq e0 e1 e2 e3 e4
    refine wp_region_U (fun w' => w'.cell? ⟨b, 4, none⟩ = some (.slice ia i ic) ∧ w'.cell? ⟨q, 0, none⟩ = some (.int .i64 ek) ∧ w'.cell? ⟨q, 1, none⟩ = some (.int .i64 en) ∧ w'.cell? ⟨q, 2, none⟩ = some (.string et) ∧ w'.cell? ⟨q, 3, none⟩ = some (.slice na' nl nc') ∧ w'.cell? ⟨q, 4, none⟩ = some (.slice ia' il ic')) (fun _ => True) 7 (by kernel_rfl) ?_
    intro wd hwd
    have hcd : Chg [] w5 wd := by rw [hwd]; exact (Chg.refl _ _).drew
    have hbd := (hcd.block q (lt_of_obj H5.out.1) (by simp)).trans H5.out.1
    have hbbd := (hcd.block b (lt_of_obj H5.out.2.1) (by simp)).trans H5.out.2.1
    have hSW := And.intro (cell_of_heap hbbd (i := 4) rfl) (box_kept q hbd (Chg.refl [] wd))
    have Hcd := Lib.hid hcd
    have Hbd := Lib.hid (And.intro hbd hbbd)
    clear hwd hcd hbd hbbd
    refine anyU_pure (i := 0) (v := .pointer (some ⟨b, 4, none⟩)) rfl (by kernel_rfl) (fun _ _ _ h => h) (Or.inl ⟨by rfl, fun w' hS => by go_simp⟩) (fun _ => hSW) trivial ?_
    simp only [Act.put, setIfInBounds_toArray, set_cons_zero, set_cons_succ]
    refine anyU_take (i := 1) (v := .slice ia i ic) rfl (by kernel_rfl) (fun _ _ _ h => h) (Or.inl ⟨by rfl, fun w' hS => by go_simp⟩) hSW trivial ?_
    simp only [Act.put, setIfInBounds_toArray, set_cons_zero, set_cons_succ]
    refine anyU_take (i := 2) (v := .agg #[.int .i64 ek, .int .i64 en, .string et, .slice na' nl nc', .slice ia' il ic']) rfl (by kernel_rfl) (fun _ _ _ h => h) (Or.inl ⟨by rfl, fun w' hS => by go_simp⟩) hSW trivial ?_
    simp only [Act.put, setIfInBounds_toArray, set_cons_zero, set_cons_succ]
    refine anyU_one (k := 3) (by kernel_rfl) rfl (fun K hK => ?_)
    go_simp
    refine (Hcall.out wd Hcd.out).mono ?_
    rintro e w6 ⟨v6, rfl, hv6, c6⟩
    obtain ⟨e6, rfl⟩ := hv6.ev'
    have hb6 := (c6.block q (lt_of_obj Hbd.out.1) (by simp)).trans Hbd.out.1
    have hbb6 := (c6.block b (lt_of_obj Hbd.out.2) (by simp)).trans Hbd.out.2
    have hS6 := And.intro (cell_of_heap hbb6 (i := 4) rfl) (box_kept q hb6 (Chg.refl [] w6))
    have H6 := Lib.hid (And.intro hb6 (And.intro hbb6 (And.intro hv6 c6)))
    clear hv6 c6 hb6 hbb6 hSW
    refine hK _ _ (fun _ => hS6) trivial ?_
    clear hK K
    unfold Ev.val
    refine anyU_one (k := 4) (by kernel_rfl) rfl (fun K hK => ?_)
    go_simp
    obtain ⟨w7, hw7⟩ : ∃ x, x = w6.alloc (.cells #[.int .i64 e6.k, .int .i64 e6.n, .string e6.t, .slice e6.na e6.nl e6.nc, .slice e6.ia e6.il e6.ic] 59) := ⟨_, rfl⟩
    obtain ⟨q7, hq7⟩ : ∃ x, x = w6.heap.size := ⟨_, rfl⟩
    have hc7 : Chg [] w6 w7 := by rw [hw7]; exact (Chg.refl _ _).alloc _
    have hb7 : w7.heap[q7]? = some (.cells #[.int .i64 e6.k, .int .i64 e6.n, .string e6.t, .slice e6.na e6.nl e6.nc, .slice e6.ia e6.il e6.ic] 59 (0, 0)) := by rw [hw7, hq7]; exact heap_at _ _ _ rfl
    rw [← hw7, ← hq7]
    have hb6 := (hc7.block q (lt_of_obj H6.out.1) (by simp)).trans H6.out.1
    have hbb6 := (hc7.block b (lt_of_obj H6.out.2.1) (by simp)).trans H6.out.2.1
    have hS7 := And.intro (cell_of_heap hbb6 (i := 4) rfl) (box_kept q hb6 (Chg.refl [] w7))
    have hc57 := (Hcd.out.trans H6.out.2.2.2).trans hc7
    have hv7 : JV (fun g => (b + 2 ≤ g ∧ g < w7.heap.size) ∧ (Value.slice ia i ic).ownBlock ≠ some g) (f' + 1) w7 e6.val el := (H6.out.2.2.1.same hc7).imp fun g hg => by
     have hz := Hcd.out.size
     have h1 := Hq.out
     have h2 := H5.out.2.2.1.size
     refine ⟨⟨by have := lt_of_obj HC.out.res; omega, hg.2⟩, fun e => ?_⟩
     have := (HC.out.row.own e).2
     omega
    have hrow7 := H5.out.2.2.2.1.same hc57
    have hlt8 : (es.take i).length = i := by rw [List.length_take]; omega
    obtain ⟨a8, c8, w8, hr8, hrow8, hc8, hob8⟩ := hrow7.push (e := e6) (x := el) (n := q7) 57 hb7 hv7 (by rw [hlt8]; have := Hlen.out.2; omega) (by have := lt_of_obj hbb6; have h1 := lt_of_obj HC.out.res; have h2 := H5.out.2.2.1.size; have h3 := hc57.size; omega)
    rw [hlt8] at hr8 hrow8
    rw [← H5.out.2.2.2.2] at hrow8
    have hnot : ∀ g, g < b + 2 → g ∉ (Value.slice ia i ic).ownBlock.toList := fun g hg hm => by
     have := (HC.out.row.own (g := g) (by simpa using hm)).1
     omega
    have hnq : q ∉ (Value.slice ia i ic).ownBlock.toList := fun hm => by
     have := (HC.out.row.own (g := q) (by simpa using hm)).2
     have := Hq.out.2.2
     omega
    have hb8 := (hc8.block q (lt_of_obj hb6) hnq).trans hb6
    have hbb8 := (hc8.block b (lt_of_obj hbb6) (hnot b (by omega))).trans hbb6
    have hS8 := And.intro (cell_of_heap hbb8 (i := 4) rfl) (box_kept q hb8 (Chg.refl [] w8))
    have hcw8 : Chg [] w w8 := ((HC.out.chg.trans H5.out.2.2.1).trans hc57).comp hc8 fun g hg => Or.inr (by
     have h1 := HC.out.row.own (g := g) (by simpa using hg)
     have h2 := Hb2.out.2.2.2
     omega)
    have hs58 := Nat.le_trans (Nat.le_trans H5.out.2.2.1.size hc57.size) hc8.size
    have hs57 := Nat.le_trans H5.out.2.2.1.size hc57.size
    have hnm8 : SlR (fun g => (b + 2 ≤ g ∧ g < w8.heap.size) ∧ (Value.slice a8 (i + 1) c8).ownBlock ≠ some g) 1 rdS w8 (.slice a3 ns.length c3) ns := by
     refine SlR.imp (strs_kept HC.out.nms (((H5.out.2.2.1.trans hc57).toP.mono (T := fun g => g ∈ (Value.slice ia i ic).ownBlock.toList) (by simp)).trans hc8.toP) (fun g hg hm => hg.2 (by simpa using hm))) (fun g hg => ⟨⟨hg.1.1, by have := hg.1.2; omega⟩, fun e => ?_⟩) (fun _ _ _ h => h)
     rcases hob8 with ho | ho
     · exact hg.2 (ho.symm.trans (by rw [hlt8]; exact e))
     · rw [hlt8] at ho
       rw [ho] at e
       cases e
       have := hg.1.2
       omega
    have hr88 := (hc8.block (b + 1) (by have h1 := lt_of_obj HC.out.res; have h2 := H5.out.2.2.1.size; have h3 := hc57.size; omega) (hnot (b + 1) (by omega))).trans (((H5.out.2.2.1.trans hc57).block (b + 1) (lt_of_obj HC.out.res) (by simp)).trans HC.out.res)
    have H8 := Lib.hid (And.intro hbb8 (And.intro hrow8 (And.intro hcw8 (And.intro hnm8 hr88))))
    have Hr8 := Lib.hid hr8
    clear hs58 hs57 hob8 hb6 hbb6 hc57 hv7 hrow7 hlt8 hr8 hrow8 hc8 hnot hnq hb8 hbb8 hcw8 hnm8 hr88 hc7 hb7 hw7 hq7
    refine hK _ _ (fun _ => hS7) trivial ?_
    clear hK K
    refine anyU_one (k := 5) (by kernel_rfl) rfl (fun K hK => ?_)
    rw [if_pos (by rfl)]
    refine wp_append_run _ _ 57 rfl _ _ _ _ rfl rfl Hr8.out ?_
    refine hK _ _ (fun _ => hS8) trivial ?_
    clear hK K
    simp only [Act.put, setIfInBounds_toArray, set_cons_zero, set_cons_succ]
    refine anyU_one (k := 6) (by kernel_rfl) rfl (fun K hK => ?_)
    go_simp
    refine hK _ _ (fun _ => hS8) trivial ?_
    clear hK K
    have k4 := hS8.1
    have f4 := frozen_of_heap (i := 4) H8.out.1
    clear hS6 hS7
    refine anyU_one (k := 7) (by kernel_rfl) rfl (fun K hK => ?_)
    go_simp
    refine hK _ _ (fun h => by simp at h) trivial ?_
    clear hK K
    refine anyU_done (by kernel_rfl) ?_
    go_wp2_with fail
    have hcs : Chg [b] w8 (w8.setCell ⟨b, 4, none⟩ (.slice a8 (i + 1) c8)) := (Chg.refl [b] w8).setCell (Or.inl (by simp)) _
    have hbw := Hb2.out.2.2.2
    refine ⟨⟨i + 1, a8, c8, by omega, by go_num, Lib.hid ⟨heap_setCell_same H8.out.1 _, H8.out.2.1.kept hcs.toP (fun g hg => by rw [List.mem_singleton.1 hg]; omega), SlR.imp (strs_kept H8.out.2.2.2.1 hcs.toP (fun g hg hm => by have := List.mem_singleton.1 hm; have := hg.1.1; omega)) (fun g hg => ⟨⟨hg.1.1, Nat.lt_of_lt_of_le hg.1.2 hcs.size⟩, hg.2⟩) (fun _ _ _ h => h), H8.out.2.2.1.setCell (Or.inr (by rw [hbw]; exact Nat.le_refl _)) _, (heap_setCell_ne _ _ _ _ (by simp)).trans H8.out.2.2.2.2⟩⟩, by simp [intOf]; omega⟩
  · obtain rfl : i = es.length := by omega
    rw [List.take_length] at HC
    obtain ⟨b0, b1, b2, b3, b4⟩ := box_kept b HC.out.box (Chg.refl [] wr)
    obtain ⟨r0, r1, r2, r3, r4⟩ := box_kept (b + 1) HC.out.res (Chg.refl [] wr)
    have fr := fun i => frozen_of_heap (i := i) HC.out.res
    have lr := lt_of_cell r0
    go_wp2_with fail
    have hC := HC.out
    refine bodyPost_ret (v := .agg #[.int .i64 k, .int .i64 n, .string t, .slice a3 ns.length c3, .slice ia es.length ic]) (by simp [results, Tryz.results178, go_sem, r0, r1, r2, r3, r4]) rfl ?_
    have hbw := Hb2.out.2.2.2
    have hcs : Chg [b + 1] wr (((((wr.setCell ⟨b + 1, 0, none⟩ (.int .i64 k)).setCell ⟨b + 1, 1, none⟩ (.int .i64 n)).setCell ⟨b + 1, 2, none⟩ (.string t)).setCell ⟨b + 1, 3, none⟩ (.slice a3 ns.length c3)).setCell ⟨b + 1, 4, none⟩ (.slice ia es.length ic)) :=
     (((((Chg.refl [b + 1] wr).setCell (Or.inl (by simp)) _).setCell (Or.inl (by simp)) _).setCell (Or.inl (by simp)) _).setCell (Or.inl (by simp)) _).setCell (Or.inl (by simp)) _
    refine ⟨_, rfl, JN.base (B := b + 2) (JN.mk ?_ ?_ Hts.out) (by omega), hC.chg.comp hcs fun g hg => Or.inr (by rw [List.mem_singleton.1 hg]; omega)⟩
    · exact SlR.imp (strs_kept hC.nms hcs.toP (fun g hg hm => by have := List.mem_singleton.1 hm; have := hg.1.1; omega)) (fun g hg => ⟨hg.1.1, Nat.lt_of_lt_of_le hg.1.2 hcs.size⟩) (fun _ _ _ h => h)
    · exact (hC.row.kept hcs.toP (fun g hg => by rw [List.mem_singleton.1 hg]; omega)).read
theorem cloneG_any (p : Nat → Prop) : ∀ (f : Nat) (w : World) (j : J) (v : Value), JV p f w v j → Bd j → Calls Tryz.prog 178 #[v] w (ClonePost j (f + 1) w) := by
 intro f
 induction f using Nat.strongRecOn with
 | ind f ih => exact fun w j v h1 h2 => clone_step p f ih w j v h1 h2
end Go.Proofs.YtjlknaahpjiibaaGreatDoor.Jv
