/- JSON values: rows of the call's own; slices.Clone at strings. -/
import Derived.Test.YtiklgipcgdgkoaaDoorJvE
import Derived.Test.YtiklgipcgdgkoaaDoorAnyU
import Derived.Lib.LazyBuf
import Derived.Lib.SliceRun
import Derived.Maps.AppendAt
namespace Go.Proofs.YtiklgipcgdgkoaaDoor.Jv
open Go.RowKit Go.ChangeMaps Go.MapKept
set_option linter.unusedVariables false
set_option linter.unusedSimpArgs false
/-- the five cells of a value -/
structure Ev where
  k : Int
  n : Int
  t : ByteArray
  na : Option Addr
  nl : Nat
  nc : Nat
  ia : Option Addr
  il : Nat
  ic : Nat
def Ev.cells (e : Ev) : List Value := [.int .i64 e.k, .int .i64 e.n, .string e.t, .slice e.na e.nl e.nc, .slice e.ia e.il e.ic]
def Ev.val (e : Ev) : Value := .agg #[.int .i64 e.k, .int .i64 e.n, .string e.t, .slice e.na e.nl e.nc, .slice e.ia e.il e.ic]
def ev0 : Ev := ⟨0, 0, ⟨#[]⟩, none, 0, 0, none, 0, 0⟩
instance : Inhabited Ev := ⟨ev0⟩
theorem JV.ev {p : Nat → Prop} {f : Nat} {w : World} {v : Value} {j : J} (h : JV p f w v j) : ∃ e : Ev, v = e.val ∧ e.k = j.kind ∧ e.n = j.num ∧ e.t = j.text ∧ e.nl = j.names.length ∧ e.il = j.elems.length := by
  obtain ⟨na, nc, ia, ic, rfl, _⟩ := h.shape
  exact ⟨⟨_, _, _, na, _, nc, ia, _, ic⟩, rfl, rfl, rfl, rfl, rfl, rfl⟩
def evCells (l : List Ev) : List Value := l.flatMap Ev.cells
theorem evCells_cons (e : Ev) (l : List Ev) : evCells (e :: l) = e.cells ++ evCells l := by simp [evCells]
theorem evCells_len (l : List Ev) : (evCells l).length = l.length * 5 := by
  induction l with
  | nil => rfl
  | cons x r ih =>
    rw [evCells_cons, List.length_append, ih]
    simp only [Ev.cells, List.length_cons, List.length_nil]
    omega
theorem evCells_append (l m : List Ev) : evCells (l ++ m) = evCells l ++ evCells m := by simp [evCells, List.flatMap_append]
theorem evCells_one (e : Ev) : evCells [e] = e.cells := by simp [evCells]
theorem evCells_oneCell (l : List Ev) : ∀ u ∈ evCells l, u.oneCell' = true := by
  intro u hu
  simp only [evCells, Ev.cells, List.mem_flatMap, List.mem_cons, List.not_mem_nil, or_false] at hu
  obtain ⟨e, _, h | h | h | h | h⟩ := hu <;> subst h <;> rfl
theorem evCells_get (xs : List Ev) : ∀ (j : Nat) (h : j < xs.length) (c : Nat) (hc : c < 5), (evCells xs)[j * 5 + c]? = (xs[j].cells)[c]? := by
  induction xs with
  | nil => intro j h; simp at h
  | cons x r ih =>
    intro j h c hc
    rw [evCells_cons]
    cases j with
    | zero => rw [List.getElem?_append_left (by simp [Ev.cells]; omega)]; simp
    | succ j =>
      have h' := ih j (by simpa using h) c hc
      rw [List.getElem?_append_right (by simp [Ev.cells]; omega)]
      have : (j + 1) * 5 + c - x.cells.length = j * 5 + c := by simp only [Ev.cells, List.length_cons, List.length_nil]; omega
      rw [this, h']
      simp
theorem evCells_ext {es : List Ev} {m : List Value} (hl : m.length = es.length * 5) (h : ∀ j (hj : j < es.length) c, c < 5 → m[j * 5 + c]? = (es[j].cells)[c]?) : m = evCells es := by
  refine List.ext_getElem? fun i => ?_
  by_cases hi : i < es.length * 5
  · have hj : i / 5 < es.length := by omega
    have h1 := h (i / 5) hj (i % 5) (Nat.mod_lt _ (by decide))
    have h2 := evCells_get es (i / 5) hj (i % 5) (Nat.mod_lt _ (by decide))
    rw [show i / 5 * 5 + i % 5 = i by omega] at h1 h2
    rw [h1, h2]
  · rw [List.getElem?_eq_none (by omega), List.getElem?_eq_none (by rw [evCells_len]; omega)]
/-- a row of values that the call owns -/
def OwnE (w : World) (base : Nat) (v : Value) (l : List Ev) : Prop := w.ownsRow base 25 5 v l.length (evCells l)
theorem OwnE.nil (w : World) (base : Nat) : OwnE w base (.slice none 0 0) [] := ⟨rfl, .inl ⟨rfl, rfl⟩⟩
theorem OwnE.kept {w w' : World} {base : Nat} {v : Value} {xs : List Ev} {S : Nat → Prop} (h : OwnE w base v xs) (hc : ChgP S w w') (hS : ∀ g, v.ownBlock = some g → ¬ S g) : OwnE w' base v xs :=
  ownsRow_kept h fun g hg hl => hc.block g hl (hS g hg)
theorem OwnE.same {w w' : World} {base : Nat} {v : Value} {xs : List Ev} (h : OwnE w base v xs) (hc : Chg [] w w') : OwnE w' base v xs := h.kept (hc.p (S := fun _ => False)) fun _ _ h => h
theorem OwnE.cell {w : World} {base g n cap : Nat} {l : List Ev} (h : OwnE w base (.slice (some ⟨g, 0, none⟩) n cap) l) {j : Nat} (hj : j < l.length) {c : Nat} {u : Value} (hu : (l[j].cells)[c]? = some u) (hc : c < 5) : w.cell? ⟨g, j * 5 + c, none⟩ = some u := by
  rw [← evCells_get l j hj c hc] at hu
  have := World.ownsRow.cells h (g := g) rfl _ _ hu
  rwa [Addr.add_lit, Nat.zero_add] at this
/-- a row of values, each of which reads as a JSON value -/
theorem OwnE.read {p : Nat → Prop} {f : Nat} {w : World} {base : Nat} {v : Value} {l : List Ev} {xs : List J} (h : OwnE w base v l) (hl : l.length = xs.length) (hp : ∀ g, v.ownBlock = some g → p g) (hx : ∀ i (hi : i < l.length), JV p f w l[i].val (xs.getD i J.zero)) : SlR p 5 (rdJ p (f + 1)) w v xs := by
  obtain ⟨a, cap, rfl⟩ := ownsRow_shape h
  rcases h.2 with ⟨hv, hx0⟩ | ⟨g, cap', cur', hv, hge, hh, h3, h4, h5, h6⟩
  · have hk : xs = [] := List.eq_nil_of_length_eq_zero (by omega)
    subst hk
    simp only [Value.slice.injEq] at hv
    obtain ⟨rfl, _, rfl⟩ := hv
    rw [hx0]
    exact SlR.nil _ _ _ _
  · cases hv
    refine ⟨_, cap, by rw [hl], by omega, by omega, fun _ => ⟨g, 0, rfl, hp g rfl, fun j hj => ?_⟩⟩
    have hj' : j < l.length := by omega
    have hx1 := hx j hj'
    rw [List.getD_eq_getElem?_getD, List.getElem?_eq_getElem hj, Option.getD_some] at hx1
    obtain ⟨nv, iv, he, hn, hi, ht⟩ := hx1
    simp only [Ev.val, Value.agg.injEq, Array.mk.injEq, List.cons.injEq, and_true] at he
    obtain ⟨e0, e1, e2, e3, e4⟩ := he
    have c0 := h.cell hj' (c := 0) rfl (by decide)
    have c1 := h.cell hj' (c := 1) rfl (by decide)
    have c2 := h.cell hj' (c := 2) rfl (by decide)
    have c3 := h.cell hj' (c := 3) rfl (by decide)
    have c4 := h.cell hj' (c := 4) rfl (by decide)
    rw [e0] at c0
    rw [e1] at c1
    rw [e2] at c2
    rw [e3] at c3
    rw [e4] at c4
    rw [Nat.zero_add]
    exact ⟨c0, c1, ⟨c2, ht⟩, nv, iv, c3, c4, hn, hi⟩
theorem infoJ : (Tryd.prog.info? 25).map (fun i => (i.zero, i.size, i.bytes)) = some (some (.agg #[.int .i64 0, .int .i64 0, .string ⟨#[]⟩, .slice none 0 0, .slice none 0 0]), 5, 80) := by kernel_rfl
theorem run_append_ev (w : World) (ty : TypeId) (B : Nat) (v : Value) (l : List Ev) (e : Ev) (n : Nat) (hv : OwnE w B v l) (hb : w.heap[n]? = some (.cells #[.int .i64 e.k, .int .i64 e.n, .string e.t, .slice e.na e.nl e.nc, .slice e.ia e.il e.ic] 25 (0, 0))) (hlen : (l.length + 1) * 80 ≤ 140737488355328) (hB : B ≤ w.heap.size) :
    ∃ v' w', (Builtin.append_ #[23, 23] ty #[v, .slice (some ⟨n, 0, none⟩) 1 1]).run Tryd.prog w = .ok v' w' ∧ OwnE w' B v' (l ++ [e]) ∧ Chg v.ownBlock.toList w w' ∧ (v'.ownBlock = v.ownBlock ∨ v'.ownBlock = some w.heap.size) := by
  obtain ⟨i0, hi, hz0, hz1, hz2⟩ := info_parts infoJ
  obtain ⟨v', w', hr, h2, h3, _, h5⟩ := run_append_own_at (P := Tryd.prog) w B 23 ty 25 i0 (.agg #[.int .i64 0, .int .i64 0, .string ⟨#[]⟩, .slice none 0 0, .slice none 0 0]) 5 80 Tryd.underlying23 hi hz0 hz1 hz2 rfl (by decide) v l.length (evCells l) hv ⟨n, 0, none⟩ 1 1 e.cells rfl (fun j u hj => by
    rw [Addr.add_lit, Nat.zero_add]
    refine cell_of_heap hb ?_
    match j with
    | 0 => simpa [Ev.cells] using hj
    | 1 => simpa [Ev.cells] using hj
    | 2 => simpa [Ev.cells] using hj
    | 3 => simpa [Ev.cells] using hj
    | 4 => simpa [Ev.cells] using hj
    | j + 5 => simp [Ev.cells] at hj) (fun u hu => evCells_oneCell [e] u (by rw [evCells_one]; exact hu)) (by unfold maxLen; omega) (by omega) hB
  refine ⟨v', w', hr, ?_, (Chg.refl _ w).grown h3 (by intro k hk; left; simp [hk]), h5⟩
  unfold OwnE
  rw [evCells_append, evCells_one, List.length_append]
  exact h2
/-! ### slices.Clone at strings -/
def ssk (l : List ByteArray) : List Value := l.map sk
theorem ssk_one (l : List ByteArray) : ∀ u ∈ ssk l, u.oneCell' = true := by
  intro u hu
  obtain ⟨x, _, rfl⟩ := List.mem_map.1 hu
  rfl
def OwnN (w : World) (base : Nat) (v : Value) (l : List ByteArray) : Prop := w.ownsRow base 9 1 v l.length (ssk l) ∧ ∀ s ∈ l, s.size ≤ maxLen
theorem OwnN.nil (w : World) (base : Nat) : OwnN w base (.slice none 0 0) [] := ⟨⟨rfl, .inl ⟨rfl, rfl⟩⟩, by simp⟩
theorem OwnN.kept {w w' : World} {base : Nat} {v : Value} {xs : List ByteArray} {S : Nat → Prop} (h : OwnN w base v xs) (hc : ChgP S w w') (hS : ∀ g, v.ownBlock = some g → ¬ S g) : OwnN w' base v xs :=
  ⟨ownsRow_kept h.1 fun g hg hl => hc.block g hl (hS g hg), h.2⟩
theorem OwnN.same {w w' : World} {base : Nat} {v : Value} {xs : List ByteArray} (h : OwnN w base v xs) (hc : Chg [] w w') : OwnN w' base v xs := h.kept (hc.p (S := fun _ => False)) fun _ _ h => h
theorem OwnN.read {p : Nat → Prop} {w : World} {base : Nat} {v : Value} {l : List ByteArray} (h : OwnN w base v l) (hp : ∀ g, v.ownBlock = some g → p g) : SlR p 1 rdS w v l := by
  obtain ⟨a, cap, rfl⟩ := ownsRow_shape h.1
  rcases h.1.2 with ⟨hv, hx⟩ | ⟨g, cap', cur', hv, hge, hh, h3, h4, h5, h6⟩
  · have hk : l = [] := List.eq_nil_of_length_eq_zero hx
    subst hk
    simp only [List.length_nil, Value.slice.injEq] at hv
    obtain ⟨rfl, _, rfl⟩ := hv
    exact SlR.nil _ _ _ _
  · cases hv
    refine ⟨_, cap, rfl, by omega, by omega, fun _ => ⟨g, 0, rfl, hp g rfl, fun j hj => ⟨?_, h.2 _ (List.getElem_mem hj)⟩⟩⟩
    have := World.ownsRow.cells h.1 (g := g) rfl j (sk l[j]) (by unfold ssk; rw [List.getElem?_map, List.getElem?_eq_getElem hj]; rfl)
    rw [Addr.add_lit, Nat.zero_add] at this
    rw [Nat.zero_add, Nat.mul_one]
    exact this
theorem rdS_size {p : Nat → Prop} {w : World} {v : Value} {l : List ByteArray} (h : SlR p 1 rdS w v l) : ∀ s ∈ l, s.size ≤ maxLen := by
  intro s hs
  obtain ⟨a, cap, _, _, _, h3⟩ := h
  obtain ⟨i, hi, rfl⟩ := List.getElem_of_mem hs
  obtain ⟨g, off, _, _, hc⟩ := h3 (by omega)
  exact (hc i hi).2
theorem infoS : (Tryd.prog.info? 9).map (fun i => (i.zero, i.size, i.bytes)) = some (some (.string ⟨#[]⟩), 1, 16) := by kernel_rfl
set_option maxHeartbeats 1000000 in
theorem nclone_any (p : Nat → Prop) (w : World) (v : Value) (l : List ByteArray) (h : SlR p 1 rdS w v l) (hl : l.length * 16 ≤ 140737488355328) :
    Calls Tryd.prog 58 #[v] w fun e w' => ∃ v', e = .returned v' ∧ OwnN w' w.heap.size v' l ∧ Chg [] w w' := by
  have hsz := rdS_size h
  obtain ⟨a, cap, rfl, h1, h2, h3⟩ := h
  cases a with
  | none =>
    have h0 : l = [] := by
      rcases l with _ | ⟨k, r⟩
      · rfl
      · obtain ⟨g, off, e, _⟩ := h3 (by simp)
        cases e
    subst h0
    have hnil := fun w : World => Lib.run_eql_slice_nil (P := Tryd.prog) w 22 9 none 0 cap 0 0 Tryd.underlying22
    clear h1 h2 h3 hsz
    go_enter Tryd.func58, Tryd.ntmps58
    go_wp2_with fail
    go_ret
    exact ⟨_, rfl, OwnN.nil _ _, Chg.refl _ _⟩
  | some ad =>
    obtain ⟨i0, hi, hz0, hz1, hz2⟩ := info_parts infoS
    have hnil := fun w : World => Lib.run_eql_slice_nil (P := Tryd.prog) w 22 9 (some ad) l.length cap 0 0 Tryd.underlying22
    have hcs : ∀ j u, (ssk l)[j]? = some u → (w.alloc (.cells #[] 9)).cell? (ad.add j) = some u := by
      intro j u hu
      have hjl : j < l.length := by
        rcases Nat.lt_or_ge j l.length with h | h
        · exact h
        · rw [List.getElem?_eq_none (by simpa [ssk] using h)] at hu; cases hu
      obtain ⟨g, off, e, _, hc⟩ := h3 (by omega)
      cases e
      have h1 := (hc j hjl).1
      unfold ssk at hu
      rw [List.getElem?_map, List.getElem?_eq_getElem hjl] at hu
      cases hu
      rw [Nat.mul_one] at h1
      rw [Addr.add_lit, World.cell?_alloc_past _ _ _ (lt_of_cell h1), h1]
      rfl
    have Hcs := Lib.hid hcs
    have Hsz := Lib.hid hsz
    clear hcs h3 hsz
    go_enter Tryd.func58, Tryd.ntmps58
    go_wp2_with (at_builtin; refine wpList_append_own _ rfl _ _ 22 rfl w.heap.size 9 i0 (.string ⟨#[]⟩) 1 16 Tryd.underlying22 hi hz0 hz1 hz2 rfl (by decide) (.slice (some ⟨w.heap.size, 0, none⟩) 0 0) 0 [] rfl (World.ownsRow_made w #[] 0 (Nat.le_refl _) (Nat.zero_le _) rfl) ad l.length cap (ssk l) rfl (by simp [ssk]) Hcs.out (ssk_one l) (by unfold maxLen; omega) (by omega) (by simp) ?_; intro v' w1 hown hgr _)
    go_ret
    simp only [Nat.zero_add, List.nil_append] at hown
    exact ⟨v', rfl, ⟨hown, Hsz.out⟩, ((Chg.refl [] w).alloc _).grown hgr (by simp [Value.ownBlock])⟩
set_option maxHeartbeats 1000000 in
theorem rclone_any (p : Nat → Prop) (w : World) (v : Value) (l : List ByteArray) (h : SlR p 1 rdS w v l) (hl : l.length * 16 ≤ 140737488355328) :
    Calls Tryd.prog 12 #[v] w fun e w' => ∃ v', e = .returned v' ∧ OwnN w' w.heap.size v' l ∧ Chg [] w w' := by
  have hsz := rdS_size h
  obtain ⟨a, cap, rfl, h1, h2, h3⟩ := h
  obtain ⟨i0, hi, hz0, hz1, hz2⟩ := info_parts infoS
  cases a with
  | none =>
    have h0 : l = [] := by
      rcases l with _ | ⟨k, r⟩
      · rfl
      · obtain ⟨g, off, e, _⟩ := h3 (by simp)
        cases e
    subst h0
    have hr : ∀ ty, (Builtin.append_ #[22, 22] ty #[.slice none 0 0, .slice none 0 cap]).run Tryd.prog w = .ok (.slice none 0 0) w := fun ty => by
      simp [Builtin.append_, run_underlying Tryd.underlying22, sizeOf, typeInfo, hi, Builtin.lenOf, Builtin.firstCells]
    clear h1 h2 h3 hsz
    go_enter Tryd.func12, Tryd.ntmps12
    go_wp2_with (at_builtin; refine wpList_append_run rfl _ _ 22 rfl (.slice none 0 0) (.slice none 0 cap) (.slice none 0 0) _ rfl rfl (hr _) ?_)
    go_ret
    exact ⟨_, rfl, OwnN.nil _ _, Chg.refl _ _⟩
  | some ad =>
    have hcs : ∀ j u, (ssk l)[j]? = some u → w.cell? (ad.add j) = some u := by
      intro j u hu
      have hjl : j < l.length := by
        rcases Nat.lt_or_ge j l.length with h | h
        · exact h
        · rw [List.getElem?_eq_none (by simpa [ssk] using h)] at hu; cases hu
      obtain ⟨g, off, e, _, hc⟩ := h3 (by omega)
      cases e
      have h1 := (hc j hjl).1
      unfold ssk at hu
      rw [List.getElem?_map, List.getElem?_eq_getElem hjl] at hu
      cases hu
      rw [Nat.mul_one] at h1
      rw [Addr.add_lit]
      exact h1
    have Hcs := Lib.hid hcs
    have Hsz := Lib.hid hsz
    have Hi0 := Lib.hid (And.intro hi (And.intro hz0 (And.intro hz1 hz2)))
    clear hcs h3 hsz hi hz0 hz1 hz2
    go_enter Tryd.func12, Tryd.ntmps12
    go_wp2_with (at_builtin; refine wpList_append_own_at _ rfl _ _ 22 rfl w.heap.size 9 i0 (.string ⟨#[]⟩) 1 16 Tryd.underlying22 Hi0.out.1 Hi0.out.2.1 Hi0.out.2.2.1 Hi0.out.2.2.2 rfl (by decide) (.slice none 0 0) 0 [] rfl (World.ownsRow_nil _ _ _ _) ad l.length cap (ssk l) rfl (by simp [ssk]) Hcs.out (ssk_one l) (by unfold maxLen; omega) (by omega) (Nat.le_refl _) ?_; intro v8 w8 hown8 hgr8 hnil8 hat8; have Hown8 := Lib.hid hown8; have Hgr8 := Lib.hid hgr8; clear hown8 hgr8 hnil8 hat8)
    go_ret
    refine ⟨v8, rfl, ⟨?_, Hsz.out⟩, (Chg.refl [] w).grown Hgr8.out (fun k h => by simp [Value.ownBlock] at h)⟩
    have := Hown8.out
    rw [Nat.zero_add, List.nil_append] at this
    exact this
end Go.Proofs.YtiklgipcgdgkoaaDoor.Jv
