/- JSON values: reversed. -/
import Derived.Test.YtpnaegfldkjikaaDoorJvI
namespace Go.Proofs.YtpnaegfldkjikaaDoor.Jv
open Go.RowKit Go.ChangeMaps Go.MapKept
set_option linter.unusedVariables false
set_option linter.unusedSimpArgs false
theorem row_set {w : World} {base g n cap sz i : Nat} {e : TypeId} {xs : List Value} {u : Value} (h : w.ownsRow base e sz (.slice (some ⟨g, 0, none⟩) n cap) n xs) (hi : i < n * sz) : (w.setCell ⟨g, i, none⟩ u).ownsRow base e sz (.slice (some ⟨g, 0, none⟩) n cap) n (xs.set i u) := by
  refine ⟨by rw [List.length_set]; exact h.1, ?_⟩
  rcases h.2 with ⟨h0, _⟩ | ⟨g', cap', cur, hv, h1, h2, h3, h4, h5, h6⟩
  · cases h0
  · cases hv
    refine .inr ⟨g, cap, cur.setIfInBounds i u, rfl, h1, heap_setCell_same h2 u, h3, h4, by simpa using h5, ?_⟩
    rw [Array.toList_setIfInBounds, List.take_set, h6]
/-- five cells stored -/
def st5 (w : World) (g o : Nat) (e : Ev) : World := ((((w.setCell ⟨g, o, none⟩ (.int .i64 e.k)).setCell ⟨g, o + 1, none⟩ (.int .i64 e.n)).setCell ⟨g, o + 2, none⟩ (.string e.t)).setCell ⟨g, o + 3, none⟩ (.slice e.na e.nl e.nc)).setCell ⟨g, o + 4, none⟩ (.slice e.ia e.il e.ic)
theorem st5_chg (w : World) (g o : Nat) (e : Ev) : Chg [g] w (st5 w g o e) := (((((Chg.refl [g] w).setCell (Or.inl (by simp)) _).setCell (Or.inl (by simp)) _).setCell (Or.inl (by simp)) _).setCell (Or.inl (by simp)) _).setCell (Or.inl (by simp)) _
theorem evCells_set (es : List Ev) (i : Nat) (hi : i < es.length) (e : Ev) : (((((evCells es).set (i * 5) (.int .i64 e.k)).set (i * 5 + 1) (.int .i64 e.n)).set (i * 5 + 2) (.string e.t)).set (i * 5 + 3) (.slice e.na e.nl e.nc)).set (i * 5 + 4) (.slice e.ia e.il e.ic) = evCells (es.set i e) := by
  refine evCells_ext (by simp [evCells_len]) fun j hj d hd => ?_
  have hj' : j < es.length := by simpa using hj
  simp only [List.getElem?_set, List.length_set, evCells_len]
  by_cases hji : j = i
  · subst hji
    rw [List.getElem_set_self]
    rcases (by omega : d = 0 ∨ d = 1 ∨ d = 2 ∨ d = 3 ∨ d = 4) with rfl | rfl | rfl | rfl | rfl
    · rw [if_neg (by omega), if_neg (by omega), if_neg (by omega), if_neg (by omega), if_pos (by omega), if_pos (by omega)]; rfl
    · rw [if_neg (by omega), if_neg (by omega), if_neg (by omega), if_pos (by omega), if_pos (by omega)]; rfl
    · rw [if_neg (by omega), if_neg (by omega), if_pos (by omega), if_pos (by omega)]; rfl
    · rw [if_neg (by omega), if_pos (by omega), if_pos (by omega)]; rfl
    · rw [if_pos (by omega), if_pos (by omega)]; rfl
  · rw [List.getElem_set_ne (by omega), if_neg (by omega), if_neg (by omega), if_neg (by omega), if_neg (by omega), if_neg (by omega)]
    exact evCells_get es j hj' d hd
/-- one value of a row replaced -/
theorem JRow.set {B f g n cap i : Nat} {w : World} {xs : List J} (h : JRow B f w (.slice (some ⟨g, 0, none⟩) n cap) xs) (hi : i < xs.length) {e : Ev} {x : J}
    (hx : JV (fun q => (B ≤ q ∧ q < w.heap.size) ∧ g ≠ q) f w e.val x) : JRow B f (st5 w g (i * 5) e) (.slice (some ⟨g, 0, none⟩) n cap) (xs.set i x) := by
  obtain ⟨es, h1, h2, h3⟩ := h
  have hn : n = es.length := by
    obtain ⟨a, c, e⟩ := ownsRow_shape h2
    cases e
    rfl
  subst hn
  have hc := st5_chg w g (i * 5) e
  have key : ∀ (y : Ev) (z : J), JV (fun q => (B ≤ q ∧ q < w.heap.size) ∧ g ≠ q) f w y.val z → JV (fun q => (B ≤ q ∧ q < (st5 w g (i * 5) e).heap.size) ∧ (Value.slice (some ⟨g, 0, none⟩) es.length cap).ownBlock ≠ some q) f (st5 w g (i * 5) e) y.val z := fun y z hz =>
    (hz.kept hc.toP fun q hq hm => hq.2 (List.mem_singleton.1 hm).symm).imp fun q hq => ⟨⟨hq.1.1, Nat.lt_of_lt_of_le hq.1.2 hc.size⟩, fun e => hq.2 (by simpa [Value.ownBlock] using e)⟩
  refine ⟨es.set i e, by simp [h1], ?_, fun j hj => ?_⟩
  · have ho := row_set (u := .slice e.ia e.il e.ic) (row_set (u := .slice e.na e.nl e.nc) (row_set (u := .string e.t) (row_set (u := .int .i64 e.n) (row_set (i := i * 5) (u := .int .i64 e.k) h2 (by omega)) (i := i * 5 + 1) (by omega)) (i := i * 5 + 2) (by omega)) (i := i * 5 + 3) (by omega)) (i := i * 5 + 4) (by omega)
    rw [evCells_set es i (by omega) e] at ho
    unfold OwnE
    rw [List.length_set]
    exact ho
  · have hj' : j < es.length := by simpa using hj
    by_cases hji : j = i
    · subst hji
      rw [List.getElem_set_self, List.getD_eq_getElem?_getD, List.getElem?_set_self hi]
      exact key _ _ hx
    · rw [List.getElem_set_ne (by omega), List.getD_eq_getElem?_getD, List.getElem?_set_ne (by omega), ← List.getD_eq_getElem?_getD]
      exact key _ _ ((h3 j hj').imp fun q hq => ⟨hq.1, fun e => hq.2 (by simp [Value.ownBlock, e])⟩)
theorem JRow.cells {B f g n cap i : Nat} {w : World} {xs : List J} (h : JRow B f w (.slice (some ⟨g, 0, none⟩) n cap) xs) (hi : i < xs.length) : (∀ c, c < 5 → ∃ u, w.cell? ⟨g, i * 5 + c, none⟩ = some u) ∧ (∀ k, w.frozen? ⟨g, k, none⟩ = false) := by
  obtain ⟨es, h1, h2, h3⟩ := h
  have hn : n = es.length := by
    obtain ⟨a, c, e⟩ := ownsRow_shape h2
    cases e
    rfl
  subst hn
  refine ⟨fun c hc => ?_, World.ownsRow.frozenAt h2⟩
  have hl : ((es[i]'(by omega)).cells).length = 5 := rfl
  exact ⟨((es[i]'(by omega)).cells)[c]'(by omega), h2.cell (j := i) (by omega) (List.getElem?_eq_getElem (by omega)) hc⟩
theorem OwnN.set {B g n cap i : Nat} {w : World} {xs : List ByteArray} (h : OwnN w B (.slice (some ⟨g, 0, none⟩) n cap) xs) (hi : i < xs.length) {s : ByteArray} (hs : s.size ≤ maxLen) : OwnN (w.setCell ⟨g, i, none⟩ (.string s)) B (.slice (some ⟨g, 0, none⟩) n cap) (xs.set i s) := by
  obtain ⟨h1, h2⟩ := h
  have hn : n = xs.length := by
    obtain ⟨a, c, e⟩ := ownsRow_shape h1
    cases e
    rfl
  subst hn
  have ho := row_set (u := .string s) h1 (i := i) (by omega)
  refine ⟨?_, fun x hx => ?_⟩
  · rw [List.length_set]
    unfold ssk at ho ⊢
    rw [List.map_set]
    exact ho
  · rcases List.mem_or_eq_of_mem_set hx with h | rfl
    · exact h2 x h
    · exact hs
theorem OwnN.cells {B g n cap i : Nat} {w : World} {xs : List ByteArray} (h : OwnN w B (.slice (some ⟨g, 0, none⟩) n cap) xs) (hi : i < xs.length) : (∃ u, w.cell? ⟨g, i, none⟩ = some u) ∧ (∀ k, w.frozen? ⟨g, k, none⟩ = false) := by
  have hn : n = xs.length := by
    obtain ⟨a, c, e⟩ := ownsRow_shape h.1
    cases e
    rfl
  subst hn
  refine ⟨⟨sk xs[i], ?_⟩, World.ownsRow.frozenAt h.1⟩
  have := World.ownsRow.cells h.1 (g := g) rfl i (sk xs[i]) (by unfold ssk; rw [List.getElem?_map, List.getElem?_eq_getElem hi]; rfl)
  rwa [Addr.add_lit, Nat.zero_add] at this
def RevPost (j : J) (f : Nat) (w : World) (e : Ending) (w' : World) : Prop := ∃ v', e = .returned v' ∧ JN w.heap.size f w' v' j.rev ∧ Chg [] w w'
/-- behind the copy of the head: its box rb, and the names' row -/
structure RH (w wr : World) (b rb : Nat) (k n : Int) (t : ByteArray) (nv : Value) (ns : List ByteArray) : Prop where
  box : wr.heap[rb]? = some (.cells #[.int .i64 k, .int .i64 n, .string t, nv, .slice none 0 0] 25 (0, 0))
  nms : OwnN wr (b + 2) nv ns
  chg : Chg [] w wr
  ge : b + 2 ≤ rb
theorem rh_of {W5 w2 : World} {b rb : Nat} {k n : Int} {t : ByteArray} {a3 : Option Addr} {l c3 B : Nat} {ns : List ByteArray} (hz : W5.heap[rb]? = some (.cells #[.int .i64 0, .int .i64 0, .string ⟨#[]⟩, .slice none 0 0, .slice none 0 0] 25 (0, 0))) (ho : OwnN W5 B (.slice a3 l c3) ns) (hc : Chg [] w2 W5) (hrb : b + 2 ≤ rb) (hw : w2.heap.size = b + 2) (hB : w2.heap.size ≤ B) :
    RH w2 (st5 W5 rb 0 ⟨k, n, t, a3, l, c3, none, 0, 0⟩) b rb k n t (.slice a3 l c3) ns := by
  have hcs : Chg [rb] W5 (st5 W5 rb 0 ⟨k, n, t, a3, l, c3, none, 0, 0⟩) := st5_chg _ _ _ _
  refine ⟨?_, ?_, hc.comp hcs fun g hg => Or.inr (by rw [List.mem_singleton.1 hg]; omega), hrb⟩
  · unfold st5
    exact heap_setCell_same (heap_setCell_same (heap_setCell_same (heap_setCell_same (heap_setCell_same hz _) _) _) _) _
  · refine ⟨ownsRow_base (ho.kept hcs.toP fun g hg hm => ?_).1 (by omega), ho.2⟩
    have e := List.mem_singleton.1 hm
    subst e
    rcases ho.1.2 with ⟨h0, _⟩ | ⟨g', cap', cur, hv, _, h2, _⟩
    · cases h0; cases hg
    · cases hv
      simp only [Value.ownBlock, Option.some.injEq] at hg
      subst hg
      rw [hz] at h2
      cases h2
theorem own_ne {w : World} {base size n g : Nat} {v : Value} {xs : List Value} {c : Array Value} (h : w.ownsRow base 9 size v n xs) (hg : v.ownBlock = some g) (hb : w.heap[g]? = some (.cells c 25 (0, 0))) : False := by
  rcases h.2 with ⟨h0, _⟩ | ⟨g', cap', cur, hv, _, h2, _⟩
  · subst h0; cases hg
  · subst hv
    simp only [Value.ownBlock, Option.some.injEq] at hg
    subst hg
    rw [hb] at h2
    cases h2
/-- the state of the loops: the copy's box rb, its rows -/
structure RL (w wr : World) (f b rb B0 : Nat) (k n : Int) (t : ByteArray) (nv iv : Value) (ns : List ByteArray) (xs : List J) : Prop where
  box : wr.heap[rb]? = some (.cells #[.int .i64 k, .int .i64 n, .string t, nv, iv] 25 (0, 0))
  nms : OwnN wr (b + 2) nv ns
  nb : ∀ g, nv.ownBlock = some g → g < B0 ∧ g ≠ rb
  row : JRow B0 f wr iv xs
  chg : Chg [] w wr
  ge : b + 2 ≤ rb
  lt : rb < B0
  sz : B0 ≤ wr.heap.size
theorem RL.push {w2 wr w7 : World} {f b rb B0 i ic q7 : Nat} {k n : Int} {t : ByteArray} {nv : Value} {ia : Option Addr} {ns : List ByteArray} {xs : List J} {e6 : Ev} {el : J} (h : RL w2 wr f b rb B0 k n t nv (.slice ia i ic) ns xs)
    (hc : Chg [] wr w7) (hb7 : w7.heap[q7]? = some (.cells #[.int .i64 e6.k, .int .i64 e6.n, .string e6.t, .slice e6.na e6.nl e6.nc, .slice e6.ia e6.il e6.ic] 25 (0, 0))) (hv : JN wr.heap.size f w7 e6.val el) (hx : xs.length = i) (hi : i ≤ 100000) (hsz : w2.heap.size = b + 2) :
    ∃ a8 c8 w8, (Builtin.append_ #[23, 23] 23 #[.slice ia i ic, .slice (some ⟨q7, 0, none⟩) 1 1]).run Tryd.prog w7 = .ok (.slice a8 (i + 1) c8) w8 ∧ Chg (Value.slice ia i ic).ownBlock.toList w7 w8 ∧
      RL w2 (w8.setCell ⟨rb, 4, none⟩ (.slice a8 (i + 1) c8)) f b rb B0 k n t nv (.slice a8 (i + 1) c8) ns (xs ++ [el]) := by
  subst hx
  have hB0 := h.sz
  have hv7 : JV (fun g => (B0 ≤ g ∧ g < w7.heap.size) ∧ (Value.slice ia xs.length ic).ownBlock ≠ some g) f w7 e6.val el := hv.imp fun g hg => ⟨⟨by have := hg.1; omega, hg.2⟩, fun e => by have := (h.row.own e).2; have := hg.1; omega⟩
  obtain ⟨a8, c8, w8, hr8, hrow8, hc8, hob8⟩ := (h.row.same hc).push (e := e6) (x := el) (n := q7) 23 hb7 hv7 hi (Nat.le_trans hB0 hc.size)
  have hown : ∀ g, g ∈ (Value.slice ia xs.length ic).ownBlock.toList → B0 ≤ g := fun g hg => (h.row.own (g := g) (by simpa using hg)).1
  have hlt := h.lt
  have hge := h.ge
  have hbox8 := (hc8.block rb (lt_of_obj ((hc.block rb (lt_of_obj h.box) (by simp)).trans h.box)) (fun hm => by have := hown _ hm; omega)).trans ((hc.block rb (lt_of_obj h.box) (by simp)).trans h.box)
  have hcs : Chg [rb] w8 (w8.setCell ⟨rb, 4, none⟩ (.slice a8 (xs.length + 1) c8)) := (Chg.refl [rb] w8).setCell (Or.inl (by simp)) _
  refine ⟨a8, c8, w8, hr8, hc8, heap_setCell_same hbox8 _, ?_, h.nb, hrow8.kept hcs.toP (fun g hg => by rw [List.mem_singleton.1 hg]; omega), ?_, hge, hlt, Nat.le_trans (Nat.le_trans hB0 hc.size) (Nat.le_trans hc8.size hcs.size)⟩
  · refine ((h.nms.same hc).kept hc8.toP fun g hg hm => by have := hown _ hm; have := (h.nb g hg).1; omega).kept hcs.toP fun g hg hm => (h.nb g hg).2 (List.mem_singleton.1 hm)
  · exact ((h.chg.trans hc).comp hc8 fun g hg => Or.inr (by have := hown _ hg; omega)).comp hcs fun g hg => Or.inr (by rw [List.mem_singleton.1 hg]; omega)
/-- the result -/
theorem RL.done {w w2 wr : World} {f b rb B0 nl nc il ic : Nat} {k n : Int} {t : ByteArray} {na ia : Option Addr} {ns : List ByteArray} {xs : List J} (h : RL w2 wr f b rb B0 k n t (.slice na nl nc) (.slice ia il ic) ns xs) (hw : Chg [] w w2) (hb : b = w.heap.size) (hz : w2.heap.size = b + 2) (ht : t.size ≤ maxLen) :
    JN w.heap.size (f + 1) (st5 wr (b + 1) 0 ⟨k, n, t, na, nl, nc, ia, il, ic⟩) (.agg #[.int .i64 k, .int .i64 n, .string t, .slice na nl nc, .slice ia il ic]) (.mk k n t ns xs) ∧ Chg [] w (st5 wr (b + 1) 0 ⟨k, n, t, na, nl, nc, ia, il, ic⟩) := by
  have hcs := st5_chg wr (b + 1) 0 ⟨k, n, t, na, nl, nc, ia, il, ic⟩
  have h1 := h.ge
  have h2 := h.lt
  refine ⟨JN.base (B := b + 2) (JN.mk ?_ ?_ ht) (by omega), (hw.trans h.chg).comp hcs fun g hg => Or.inr (by rw [List.mem_singleton.1 hg]; omega)⟩
  · refine (h.nms.kept hcs.toP fun g hg hm => ?_).read fun g hg => ?_
    · have := (ownsRow_ge h.nms.1 hg).1; have := List.mem_singleton.1 hm; omega
    · have h3 := ownsRow_ge h.nms.1 hg; exact ⟨h3.1, Nat.lt_of_lt_of_le h3.2 hcs.size⟩
  · exact SlR.imp (h.row.kept hcs.toP (fun g hg => by rw [List.mem_singleton.1 hg]; omega)).read (fun g hg => ⟨by have := hg.1; omega, hg.2⟩) fun ad x _ hx => rdJ.imp (fun g hg => ⟨by have := hg.1; omega, hg.2⟩) hx
theorem JRow.form {B f n cap : Nat} {a : Option Addr} {w : World} {xs : List J} (h : JRow B f w (.slice a n cap) xs) (h0 : 0 < xs.length) : ∃ g, a = some ⟨g, 0, none⟩ := by
  obtain ⟨es, h1, h2, h3⟩ := h
  rcases h2.2 with ⟨_, h⟩ | ⟨g, cap', cur, hv, _⟩
  · omega
  · cases hv; exact ⟨g, rfl⟩
theorem OwnN.form {B n cap : Nat} {a : Option Addr} {w : World} {xs : List ByteArray} (h : OwnN w B (.slice a n cap) xs) (h0 : 0 < xs.length) : ∃ g, a = some ⟨g, 0, none⟩ := by
  rcases h.1.2 with ⟨_, h⟩ | ⟨g, cap', cur, hv, _⟩
  · omega
  · cases hv; exact ⟨g, rfl⟩
theorem RL.swap {w2 wr w6 : World} {f b rb B0 nl nc il ic gn ge i : Nat} {k n : Int} {t : ByteArray} {ns : List ByteArray} {xs : List J} {e6 : Ev} {el : J} {s : ByteArray} (h : RL w2 wr f b rb B0 k n t (.slice (some ⟨gn, 0, none⟩) nl nc) (.slice (some ⟨ge, 0, none⟩) il ic) ns xs)
    (hc : Chg [] wr w6) (hv : JN wr.heap.size f w6 e6.val el) (hi : i < xs.length) (hn : i < ns.length) (hs : s.size ≤ maxLen) (hsz : w2.heap.size = b + 2) :
    RL w2 ((st5 w6 ge (i * 5) e6).setCell ⟨gn, i, none⟩ (.string s)) f b rb B0 k n t (.slice (some ⟨gn, 0, none⟩) nl nc) (.slice (some ⟨ge, 0, none⟩) il ic) (ns.set i s) (xs.set i el) := by
  have h1 := h.ge
  have h2 := h.lt
  have h3 := h.nb gn rfl
  have h4 := h.row.own (g := ge) rfl
  have h5 := (ownsRow_ge h.nms.1 (g := gn) rfl)
  have h6 := h.sz
  have hcs := st5_chg w6 ge (i * 5) e6
  have hcn : Chg [gn] (st5 w6 ge (i * 5) e6) ((st5 w6 ge (i * 5) e6).setCell ⟨gn, i, none⟩ (.string s)) := (Chg.refl [gn] _).setCell (Or.inl (by simp)) _
  refine ⟨?_, ?_, h.nb, ?_, ?_, h1, h2, Nat.le_trans (Nat.le_trans h6 hc.size) (Nat.le_trans hcs.size hcn.size)⟩
  · refine (heap_setCell_ne _ _ _ _ (show rb ≠ gn by omega)).trans ((hcs.block rb ?_ (by simp; omega)).trans ((hc.block rb (lt_of_obj h.box) (by simp)).trans h.box))
    exact lt_of_obj ((hc.block rb (lt_of_obj h.box) (by simp)).trans h.box)
  · exact ((h.nms.same hc).kept hcs.toP fun g hg hm => by
      have e1 := List.mem_singleton.1 hm
      simp only [Value.ownBlock, Option.some.injEq] at hg
      omega).set hn hs
  · refine ((h.row.same hc).set hi (hv.imp fun g hg => ⟨⟨by have := hg.1; omega, hg.2⟩, fun e => by have := hg.1; omega⟩)).kept hcn.toP fun g hg => by rw [List.mem_singleton.1 hg]; exact h3.1
  · exact ((h.chg.trans hc).comp hcs fun g hg => Or.inr (by rw [List.mem_singleton.1 hg]; omega)).comp hcn fun g hg => Or.inr (by rw [List.mem_singleton.1 hg]; omega)
theorem list_swap {α : Type} {R L : List α} {i : Nat} (hl : R.length = L.length) (hi : i < R.length) : (R.take i ++ L.drop i).set i R[i] = R.take (i + 1) ++ L.drop (i + 1) := by
  have h1 : (R.take i).length = i := by rw [List.length_take]; omega
  rw [List.set_append_right _ _ (by omega), h1, Nat.sub_self, List.drop_eq_getElem_cons (by omega), List.set_cons_zero, List.take_succ_eq_append_getElem hi, List.append_assoc]
  rfl
theorem s7_kept {w w' : World} {S : List Nat} {a0 a1 a2 a3 a4 a5 a6 : Addr} {v0 v1 v2 v3 v4 v5 v6 : Value}
    (h : w.cell? a0 = some v0 ∧ w.cell? a1 = some v1 ∧ w.cell? a2 = some v2 ∧ w.cell? a3 = some v3 ∧ w.cell? a4 = some v4 ∧ w.cell? a5 = some v5 ∧ w.cell? a6 = some v6) (hc : Chg S w w') (hS : ∀ g, (g = a0.block ∨ g = a1.block ∨ g = a2.block ∨ g = a3.block ∨ g = a4.block ∨ g = a5.block ∨ g = a6.block) → g ∉ S) :
    w'.cell? a0 = some v0 ∧ w'.cell? a1 = some v1 ∧ w'.cell? a2 = some v2 ∧ w'.cell? a3 = some v3 ∧ w'.cell? a4 = some v4 ∧ w'.cell? a5 = some v5 ∧ w'.cell? a6 = some v6 := by
  obtain ⟨h0, h1, h2, h3, h4, h5, h6⟩ := h
  have key : ∀ {a : Addr} {v : Value}, w.cell? a = some v → a.block ∉ S → w'.cell? a = some v := fun h hn => (hc.cell (lt_of_cell h) hn).trans h
  exact ⟨key h0 (hS _ (by simp)), key h1 (hS _ (by simp)), key h2 (hS _ (by simp)), key h3 (hS _ (by simp)), key h4 (hS _ (by simp)), key h5 (hS _ (by simp)), key h6 (hS _ (by simp))⟩
/-- the cells that the second loop's store reads -/
def sR (b rb gn ge g off gx offx m i nl c3 il ic nc cap en' ei' : Nat) (ek en : Int) (et nm : ByteArray) (na' : Option Addr) (nc' : Nat) (ia' : Option Addr) (ic' : Nat) (w' : World) : Prop :=
  w'.cell? ⟨rb, 4, none⟩ = some (.slice (some ⟨ge, 0, none⟩) il ic) ∧ w'.cell? ⟨rb, 3, none⟩ = some (.slice (some ⟨gn, 0, none⟩) nl c3) ∧ w'.cell? ⟨b, 4, none⟩ = some (.slice (some ⟨g, off, none⟩) il cap) ∧ w'.cell? ⟨b, 3, none⟩ = some (.slice (some ⟨gx, offx, none⟩) nl nc) ∧
  w'.cell? ⟨gx, offx + m, none⟩ = some (.string nm) ∧ (w'.cell? ⟨g, off + m * 5, none⟩ = some (.int .i64 ek) ∧ w'.cell? ⟨g, off + m * 5 + 1, none⟩ = some (.int .i64 en) ∧ w'.cell? ⟨g, off + m * 5 + 2, none⟩ = some (.string et) ∧ w'.cell? ⟨g, off + m * 5 + 3, none⟩ = some (.slice na' en' nc') ∧ w'.cell? ⟨g, off + m * 5 + 4, none⟩ = some (.slice ia' ei' ic'))
theorem sR.kept {b rb gn ge g off gx offx m i nl c3 il ic nc cap en' ei' : Nat} {ek en : Int} {et nm : ByteArray} {na' : Option Addr} {nc' : Nat} {ia' : Option Addr} {ic' : Nat} {w w' : World} {S : List Nat}
    (h : sR b rb gn ge g off gx offx m i nl c3 il ic nc cap en' ei' ek en et nm na' nc' ia' ic' w) (hc : Chg S w w') (hS : ∀ x, (x = rb ∨ x = b ∨ x = gx ∨ x = g) → x ∉ S) : sR b rb gn ge g off gx offx m i nl c3 il ic nc cap en' ei' ek en et nm na' nc' ia' ic' w' := by
  obtain ⟨h0, h1, h2, h3, h4, h5, h6, h7, h8, h9⟩ := h
  have key : ∀ {a : Addr} {v : Value}, w.cell? a = some v → a.block ∉ S → w'.cell? a = some v := fun h hn => (hc.cell (lt_of_cell h) hn).trans h
  exact ⟨key h0 (hS _ (by simp)), key h1 (hS _ (by simp)), key h2 (hS _ (by simp)), key h3 (hS _ (by simp)), key h4 (hS _ (by simp)), key h5 (hS _ (by simp)), key h6 (hS _ (by simp)), key h7 (hS _ (by simp)), key h8 (hS _ (by simp)), key h9 (hS _ (by simp))⟩
set_option maxRecDepth 100000 in
set_option maxHeartbeats 8000000 in
theorem rev_step (p : Nat → Prop) (f : Nat)
    (ih : ∀ f', f' < f → ∀ (w : World) (j : J) (v : Value), JV p f' w v j → Sm j → Calls Tryd.prog 10 #[v] w (RevPost j (f' + 1) w))
    (w : World) (j : J) (v : Value) (hj : JV p f w v j) (hs : Sm j) :
    Calls Tryd.prog 10 #[v] w (RevPost j (f + 1) w) := by
  obtain ⟨k, n, t, ns, es⟩ := j
  obtain ⟨na, nc, a, cap, rfl, hns, hes, ⟨hn1, hn2⟩, ⟨hl1, hl2⟩, hts⟩ := hj.shape
  simp only [J.kind, J.num, J.text, J.names, J.elems] at hns hes hl1 hl2 hts hj hn1 hn2 ⊢
  have hlen := hs.len
  unfold maxLen at hl2 hn2
  obtain ⟨w2, hw2⟩ : ∃ x, x = (w.alloc (.cells #[.int .i64 k, .int .i64 n, .string t, .slice na ns.length nc, .slice a es.length cap] 25)).alloc (.cells #[.int .i64 0, .int .i64 0, .string ⟨#[]⟩, .slice none 0 0, .slice none 0 0] 25) := ⟨_, rfl⟩
  have hc2 : Chg [] w w2 := by rw [hw2]; exact ((Chg.refl [] w).alloc _).alloc _
  obtain ⟨b, hb⟩ : ∃ b, b = w.heap.size := ⟨_, rfl⟩
  have hb2 : w2.heap[b]? = some (.cells #[.int .i64 k, .int .i64 n, .string t, .slice na ns.length nc, .slice a es.length cap] 25 (0, 0)) := by
    rw [hw2, hb, heap_past _ _ _ (by simp)]
    exact heap_at _ _ _ rfl
  have hr2 : w2.heap[b + 1]? = some (.cells #[.int .i64 0, .int .i64 0, .string ⟨#[]⟩, .slice none 0 0, .slice none 0 0] 25 (0, 0)) := by rw [hw2, hb]; exact heap_at _ _ _ (by simp)
  have hsz2 : w2.heap.size = b + 2 := by rw [hw2, hb]; simp
  have Hcl := Lib.hid (fun W (hW : Chg [] w2 W) => rclone_any p W _ ns (strs_kept (S := fun _ => False) hns (hc2.trans hW).p (fun _ _ h => h)) (by omega))
  obtain ⟨b0, b1, b2, b3, b4⟩ := box_kept b hb2 (Chg.refl [] w2)
  have Hns := Lib.hid hns
  have Hes := Lib.hid hes
  have Hc2 := Lib.hid hc2
  have Hb2 := Lib.hid (And.intro hb2 (And.intro hr2 (And.intro hsz2 hb)))
  have Hs := Lib.hid hs
  have Hlen := Lib.hid hlen
  have Hts := Lib.hid hts
  have lb := lt_of_cell b0
  have fb := fun i => frozen_of_heap (i := i) hb2
  clear hns hes hc2 hb2 hr2 hsz2 hj hs hlen hts
  go_enter Tryd.func10, Tryd.ntmps10
  go_upto_region 1 with fail
  rw [← hw2, ← hb]
  clear hw2 hb
  go_cut [3] (fun v3 wx => ∃ rb na3 nc3, v3 = .pointer (some ⟨rb, 0, none⟩) ∧ Hid (RH w2 wx b rb k n t (.slice na3 ns.length nc3) ns))
  case first =>
    refine wp_region_U (fun w' => w'.cell? ⟨b, 0, none⟩ = some (.int .i64 k) ∧ w'.cell? ⟨b, 1, none⟩ = some (.int .i64 n) ∧ w'.cell? ⟨b, 2, none⟩ = some (.string t) ∧ w'.cell? ⟨b, 3, none⟩ = some (.slice na ns.length nc)) (fun w' => w'.cell? ⟨b, 0, none⟩ = some (.int .i64 k) ∧ w'.cell? ⟨b, 1, none⟩ = some (.int .i64 n) ∧ w'.cell? ⟨b, 2, none⟩ = some (.string t) ∧ w'.cell? ⟨b, 3, none⟩ = some (.slice na ns.length nc)) 11 (by kernel_rfl) ?_
    intro wd hwd
    have hcd : Chg [] w2 wd := by rw [hwd]; exact (Chg.refl _ _).drew
    obtain ⟨y0, y1, y2, y3, y4⟩ := box_kept b Hb2.out.1 hcd
    have hSW := And.intro y0 (And.intro y1 (And.intro y2 y3))
    have Hcd := Lib.hid hcd
    clear hwd hcd y0 y1 y2 y3 y4
    refine anyU_pure (i := 0) (v := .pointer (some ⟨b, 0, none⟩)) rfl (by kernel_rfl) (fun _ _ _ h => h) (Or.inl ⟨by rfl, fun w' hS => by go_simp⟩) (fun _ => hSW) hSW ?_
    simp only [Act.put, List.setIfInBounds_toArray, List.set_cons_zero, List.set_cons_succ]
    refine anyU_keep (i := 1) (v := .int .i64 k) rfl (by kernel_rfl) (fun _ _ _ h => h) (Or.inl ⟨by rfl, fun w' hS => by go_simp⟩) (fun _ h => h) (fun _ => hSW) hSW ?_
    simp only [Act.put, List.setIfInBounds_toArray, List.set_cons_zero, List.set_cons_succ]
    refine anyU_pure (i := 2) (v := .pointer (some ⟨b, 1, none⟩)) rfl (by kernel_rfl) (fun _ _ _ h => h) (Or.inl ⟨by rfl, fun w' hS => by go_simp⟩) (fun _ => hSW) hSW ?_
    simp only [Act.put, List.setIfInBounds_toArray, List.set_cons_zero, List.set_cons_succ]
    refine anyU_keep (i := 3) (v := .int .i64 n) rfl (by kernel_rfl) (fun _ _ _ h => h) (Or.inl ⟨by rfl, fun w' hS => by go_simp⟩) (fun _ h => h) (fun _ => hSW) hSW ?_
    simp only [Act.put, List.setIfInBounds_toArray, List.set_cons_zero, List.set_cons_succ]
    refine anyU_pure (i := 4) (v := .pointer (some ⟨b, 2, none⟩)) rfl (by kernel_rfl) (fun _ _ _ h => h) (Or.inl ⟨by rfl, fun w' hS => by go_simp⟩) (fun _ => hSW) hSW ?_
    simp only [Act.put, List.setIfInBounds_toArray, List.set_cons_zero, List.set_cons_succ]
    refine anyU_keep (i := 5) (v := .string t) rfl (by kernel_rfl) (fun _ _ _ h => h) (Or.inl ⟨by rfl, fun w' hS => by go_simp⟩) (fun _ h => h) (fun _ => hSW) hSW ?_
    simp only [Act.put, List.setIfInBounds_toArray, List.set_cons_zero, List.set_cons_succ]
    refine anyU_pure (i := 6) (v := .pointer (some ⟨b, 3, none⟩)) rfl (by kernel_rfl) (fun _ _ _ h => h) (Or.inl ⟨by rfl, fun w' hS => by go_simp⟩) (fun _ => hSW) hSW ?_
    simp only [Act.put, List.setIfInBounds_toArray, List.set_cons_zero, List.set_cons_succ]
    refine anyU_keep (i := 7) (v := .slice na ns.length nc) rfl (by kernel_rfl) (fun _ _ _ h => h) (Or.inl ⟨by rfl, fun w' hS => by go_simp⟩) (fun _ h => h) (fun _ => hSW) hSW ?_
    simp only [Act.put, List.setIfInBounds_toArray, List.set_cons_zero, List.set_cons_succ]
    refine anyU_two (k := 8) (k' := 10) (by kernel_rfl) rfl rfl (fun K hK => ?_) (fun K hK => ?_)
    · go_simp
      refine (Hcl.out wd Hcd.out).mono ?_
      rintro e w3 ⟨v3, rfl, ho3, hc3⟩
      obtain ⟨a3, c3, rfl⟩ := ownsRow_shape ho3.1
      obtain ⟨y0, y1, y2, y3, y4⟩ := box_kept b Hb2.out.1 (Hcd.out.trans hc3)
      have hS3 := And.intro y0 (And.intro y1 (And.intro y2 y3))
      refine hK _ _ (fun _ => hS3) hS3 ?_
      clear hK K hSW y0 y1 y2 y3 y4
      refine anyU_pure (i := 9) (v := .agg #[.int .i64 k, .int .i64 n, .string t, .slice a3 ns.length c3, .slice none 0 0]) rfl (by kernel_rfl) (fun _ _ _ h => h) (Or.inl ⟨by rfl, fun w' hS => by go_simp⟩) (fun _ => hS3) hS3 ?_
      simp only [Act.put, List.setIfInBounds_toArray, List.set_cons_zero, List.set_cons_succ]
      obtain ⟨W5, hW5⟩ : ∃ x, x = w3.alloc (.cells #[.int .i64 0, .int .i64 0, .string ⟨#[]⟩, .slice none 0 0, .slice none 0 0] 25) := ⟨_, rfl⟩
      obtain ⟨rb, hrbw⟩ : ∃ x, x = w3.heap.size := ⟨_, rfl⟩
      have hc5 : Chg [] w3 W5 := by rw [hW5]; exact (Chg.refl _ _).alloc _
      have hz : W5.heap[rb]? = some (.cells #[.int .i64 0, .int .i64 0, .string ⟨#[]⟩, .slice none 0 0, .slice none 0 0] 25 (0, 0)) := by rw [hW5, hrbw]; exact heap_at _ _ _ rfl
      have hcw5 := (Hcd.out.trans hc3).trans hc5
      have hrb : b + 2 ≤ rb := by have h1 := Hb2.out.2.2.1; have h2 := (Hcd.out.trans hc3).size; omega
      have hS5b := box_kept b Hb2.out.1 ((Hcd.out.trans hc3).trans hc5)
      have ho5 := ho3.same hc5
      have HRH := rh_of (k := k) (n := n) (t := t) hz ho5 hcw5 hrb Hb2.out.2.2.1 Hcd.out.size
      refine anyU_one (k := 10) (by kernel_rfl) rfl (fun K hK => ?_)
      go_simp
      rw [← hW5, ← hrbw]
      have hS5 := And.intro hS5b.1 (And.intro hS5b.2.1 (And.intro hS5b.2.2.1 hS5b.2.2.2.1))
      refine hK _ _ (fun _ => hS5) hS5 ?_
      clear hK K hW5 hrbw
      obtain ⟨z0, z1, z2, z3, z4⟩ := box_kept rb hz (Chg.refl [] W5)
      have fz := fun i => frozen_of_heap (i := i) hz
      have lz := lt_of_cell z0
      refine anyU_one (k := 11) (by kernel_rfl) rfl (fun K hK => ?_)
      go_simp
      have hst : W5.heap[rb]? = some (.cells #[.int .i64 0, .int .i64 0, .string ⟨#[]⟩, .slice none 0 0, .slice none 0 0] 25 (0, 0)) := hz
      refine hK _ _ (fun h => by simp at h) ?_ ?_
      · have hcs : Chg [rb] W5 (st5 W5 rb 0 ⟨k, n, t, a3, ns.length, c3, none, 0, 0⟩) := st5_chg _ _ _ _
        obtain ⟨y0, y1, y2, y3, y4⟩ := hS5b
        have hne : b ∉ [rb] := by have := hrb; simp; omega
        exact ⟨(hcs.cell (lt_of_cell y0) hne).trans y0, (hcs.cell (lt_of_cell y1) hne).trans y1, (hcs.cell (lt_of_cell y2) hne).trans y2, (hcs.cell (lt_of_cell y3) hne).trans y3⟩
      · refine anyU_done (by kernel_rfl) ?_
        have hRH := HRH
        clear hK K z0 z1 z2 z3 z4 fz lz hst hz
        go_wp2_with fail
        go_meet
        exact ⟨rb, a3, c3, rfl, Lib.hid hRH⟩
    · go_simp
      obtain ⟨w4, hw4⟩ : ∃ x, x = wd.alloc (.cells #[.int .i64 0, .int .i64 0, .string ⟨#[]⟩, .slice none 0 0, .slice none 0 0] 25) := ⟨_, rfl⟩
      obtain ⟨rb, hrbw⟩ : ∃ x, x = wd.heap.size := ⟨_, rfl⟩
      have hc4 : Chg [] wd w4 := by rw [hw4]; exact (Chg.refl _ _).alloc _
      have hz4 : w4.heap[rb]? = some (.cells #[.int .i64 0, .int .i64 0, .string ⟨#[]⟩, .slice none 0 0, .slice none 0 0] 25 (0, 0)) := by rw [hw4, hrbw]; exact heap_at _ _ _ rfl
      have hrb : b + 2 ≤ rb := by have h1 := Hb2.out.2.2.1; have h2 := Hcd.out.size; omega
      rw [← hw4, ← hrbw]
      have hS4b := box_kept b Hb2.out.1 (Hcd.out.trans hc4)
      have hS4 := And.intro hS4b.1 (And.intro hS4b.2.1 (And.intro hS4b.2.2.1 hS4b.2.2.2.1))
      refine hK _ _ (fun _ => hS4) hS4 ?_
      clear hK K hw4 hrbw
      refine anyU_one (k := 8) (by kernel_rfl) rfl (fun K hK => ?_)
      go_simp
      refine (Hcl.out w4 (Hcd.out.trans hc4)).mono ?_
      rintro e W5 ⟨v3, rfl, ho5, hc5⟩
      obtain ⟨a3, c3, rfl⟩ := ownsRow_shape ho5.1
      have hz := (hc5.block _ (lt_of_obj hz4) (by simp)).trans hz4
      have hcw5 := (Hcd.out.trans hc4).trans hc5
      have hS5b := box_kept b Hb2.out.1 ((Hcd.out.trans hc4).trans hc5)
      have HRH := rh_of (k := k) (n := n) (t := t) hz ho5 hcw5 hrb Hb2.out.2.2.1 (Nat.le_trans Hcd.out.size hc4.size)
      have hS5 := And.intro hS5b.1 (And.intro hS5b.2.1 (And.intro hS5b.2.2.1 hS5b.2.2.2.1))
      refine hK _ _ (fun _ => hS5) hS5 ?_
      clear hK K hSW hS4 hS4b
      refine anyU_pure (i := 9) (v := .agg #[.int .i64 k, .int .i64 n, .string t, .slice a3 ns.length c3, .slice none 0 0]) rfl (by kernel_rfl) (fun _ _ _ h => h) (Or.inl ⟨by rfl, fun w' hS => by go_simp⟩) (fun _ => hS5) hS5 ?_
      simp only [Act.put, List.setIfInBounds_toArray, List.set_cons_zero, List.set_cons_succ]
      obtain ⟨z0, z1, z2, z3, z4⟩ := box_kept rb hz (Chg.refl [] W5)
      have fz := fun i => frozen_of_heap (i := i) hz
      have lz := lt_of_cell z0
      refine anyU_one (k := 11) (by kernel_rfl) rfl (fun K hK => ?_)
      go_simp
      have hst : W5.heap[rb]? = some (.cells #[.int .i64 0, .int .i64 0, .string ⟨#[]⟩, .slice none 0 0, .slice none 0 0] 25 (0, 0)) := hz
      refine hK _ _ (fun h => by simp at h) ?_ ?_
      · have hcs : Chg [rb] W5 (st5 W5 rb 0 ⟨k, n, t, a3, ns.length, c3, none, 0, 0⟩) := st5_chg _ _ _ _
        obtain ⟨y0, y1, y2, y3, y4⟩ := hS5b
        have hne : b ∉ [rb] := by have := hrb; simp; omega
        exact ⟨(hcs.cell (lt_of_cell y0) hne).trans y0, (hcs.cell (lt_of_cell y1) hne).trans y1, (hcs.cell (lt_of_cell y2) hne).trans y2, (hcs.cell (lt_of_cell y3) hne).trans y3⟩
      · refine anyU_done (by kernel_rfl) ?_
        have hRH := HRH
        clear hK K z0 z1 z2 z3 z4 fz lz hst hz
        go_wp2_with fail
        go_meet
        exact ⟨rb, a3, c3, rfl, Lib.hid hRH⟩
  case rest =>
    obtain ⟨rb, a3, c3, rfl, HH⟩ := hcut
    have hRL : RL w2 wc f b rb wc.heap.size k n t (.slice a3 ns.length c3) (.slice none 0 0) ns ((revL es).take 0) :=
      ⟨HH.out.box, HH.out.nms, fun g hg => ⟨(ownsRow_ge HH.out.nms.1 hg).2, fun e => by subst e; exact own_ne HH.out.nms.1 hg HH.out.box⟩, JRow.nil _ _ _, HH.out.chg, HH.out.ge, lt_of_obj HH.out.box, Nat.le_refl _⟩
    obtain ⟨B0, hB0⟩ : ∃ x, x = wc.heap.size := ⟨_, rfl⟩
    rw [← hB0] at hRL
    have HRL := Lib.hid hRL
    obtain ⟨b0, b1, b2, b3, b4⟩ := box_kept b Hb2.out.1 HRL.out.chg
    clear hRL hB0 HH
    go_wp2_with fail
    go_loopw [20] (fun ii wr => ∃ (i : Nat) (ia : Option Addr) (ic : Nat), i ≤ es.length ∧ ii = .int .i64 (i : Nat) ∧ Hid (RL w2 wr f b rb B0 k n t (.slice a3 ns.length c3) (.slice ia i ic) ns ((revL es).take i))) (fun ii _ => es.length - (intOf ii).toNat)
    case atStart => exact ⟨0, none, 0, by omega, rfl, HRL⟩
    case round =>
      obtain ⟨i, ia, ic, hi, rfl, HC⟩ := hrel
      obtain ⟨b0, b1, b2, b3, b4⟩ := box_kept b Hb2.out.1 HC.out.chg
      by_cases hlt : i < es.length
      · have hij : (i : Int) < es.length := by omega
        have hi0 : (0 : Int) ≤ i := by omega
        obtain ⟨g, off, na', nc', ia', ic', rfl, hpg, e0, e1, e2, e3, e4, f', rfl, hjv⟩ := elem_at Hes.out hlt
        have hcw := Hc2.out.trans HC.out.chg
        have hgw := lt_of_cell e0
        replace e0 := (hcw.cell (lt_of_cell e0) (by simp)).trans e0
        replace e1 := (hcw.cell (lt_of_cell e1) (by simp)).trans e1
        replace e2 := (hcw.cell (lt_of_cell e2) (by simp)).trans e2
        replace e3 := (hcw.cell (lt_of_cell e3) (by simp)).trans e3
        replace e4 := (hcw.cell (lt_of_cell e4) (by simp)).trans e4
        obtain ⟨el, hel⟩ : ∃ el, el = es[i] := ⟨_, rfl⟩
        rw [← hel] at e0 e1 e2 e3 e4 hjv
        have hsm : Sm el := Hs.out.elem (hel ▸ List.getElem_mem hlt)
        have htk : (revL es).take (i + 1) = (revL es).take i ++ [el.rev] := by rw [List.take_add_one, List.getElem?_eq_getElem (by rw [revL_len]; exact hlt), hel]; simp [revL_map]
        obtain ⟨ek, hek⟩ : ∃ x, x = el.kind := ⟨_, rfl⟩
        obtain ⟨en, hen⟩ : ∃ x, x = el.num := ⟨_, rfl⟩
        obtain ⟨et, het⟩ : ∃ x, x = el.text := ⟨_, rfl⟩
        rw [← hek] at e0 hjv
        rw [← hen] at e1 hjv
        rw [← het] at e2 hjv
        obtain ⟨nl, hnl⟩ : ∃ x, x = el.names.length := ⟨_, rfl⟩
        obtain ⟨il, hil⟩ : ∃ x, x = el.elems.length := ⟨_, rfl⟩
        rw [← hnl] at e3 hjv
        rw [← hil] at e4 hjv
        have hbb := HC.out.box
        have Hcall := Lib.hid (fun W (hW : Chg [] wr W) => ih f' (by omega) W el _ (hjv.kept (S := fun _ => False) (hcw.trans hW).p (fun _ _ h => h)) hsm)
        have Hgw := Lib.hid (show g < b by rw [Hb2.out.2.2.2]; exact hgw)
        have lg := lt_of_cell e0
        have q4 := cell_of_heap hbb (i := 4) rfl
        have H5 := Lib.hid (And.intro hbb htk)
        clear hel hek hen het hnl hil hjv hpg hsm hbb htk hcw hgw
        go_upto_region 5 with fail
        refine wp_region_U (fun w' => w'.cell? ⟨rb, 4, none⟩ = some (.slice ia i ic) ∧ w'.cell? ⟨b, 4, none⟩ = some (.slice (some ⟨g, off, none⟩) es.length cap) ∧ w'.cell? ⟨g, off + i * 5, none⟩ = some (.int .i64 ek) ∧ w'.cell? ⟨g, off + i * 5 + 1, none⟩ = some (.int .i64 en) ∧ w'.cell? ⟨g, off + i * 5 + 2, none⟩ = some (.string et) ∧ w'.cell? ⟨g, off + i * 5 + 3, none⟩ = some (.slice na' nl nc') ∧ w'.cell? ⟨g, off + i * 5 + 4, none⟩ = some (.slice ia' il ic')) (fun _ => True) 11 (by kernel_rfl) ?_
        intro wd hwd
        have hcd : Chg [] wr wd := by rw [hwd]; exact (Chg.refl _ _).drew
        have hSr := And.intro q4 (And.intro b4 (And.intro e0 (And.intro e1 (And.intro e2 (And.intro e3 e4)))))
        have hSW := s7_kept (S := []) hSr hcd (fun g _ => by simp)
        have Hcd := Lib.hid hcd
        have HSr := Lib.hid hSr
        clear hwd hcd hSr q4 e0 e1 e2 e3 e4
        refine anyU_pure (i := 0) (v := .pointer (some ⟨rb, 4, none⟩)) rfl (by kernel_rfl) (fun _ _ _ h => h) (Or.inl ⟨by rfl, fun w' hS => by go_simp⟩) (fun _ => hSW) trivial ?_
        simp only [Act.put, List.setIfInBounds_toArray, List.set_cons_zero, List.set_cons_succ]
        refine anyU_take (i := 1) (v := .slice ia i ic) rfl (by kernel_rfl) (fun _ _ _ h => h) (Or.inl ⟨by rfl, fun w' hS => by go_simp⟩) hSW trivial ?_
        simp only [Act.put, List.setIfInBounds_toArray, List.set_cons_zero, List.set_cons_succ]
        refine anyU_pure (i := 2) (v := .pointer (some ⟨b, 4, none⟩)) rfl (by kernel_rfl) (fun _ _ _ h => h) (Or.inl ⟨by rfl, fun w' hS => by go_simp⟩) (fun _ => hSW) trivial ?_
        simp only [Act.put, List.setIfInBounds_toArray, List.set_cons_zero, List.set_cons_succ]
        refine anyU_take (i := 3) (v := .slice (some ⟨g, off, none⟩) es.length cap) rfl (by kernel_rfl) (fun _ _ _ h => h) (Or.inl ⟨by rfl, fun w' hS => by go_simp⟩) hSW trivial ?_
        simp only [Act.put, List.setIfInBounds_toArray, List.set_cons_zero, List.set_cons_succ]
        refine anyU_pure (i := 4) (v := .int .i64 (i : Nat)) rfl (by kernel_rfl) (fun _ _ _ h => h) (Or.inl ⟨by rfl, fun w' hS => by go_simp⟩) (fun _ => hSW) trivial ?_
        simp only [Act.put, List.setIfInBounds_toArray, List.set_cons_zero, List.set_cons_succ]
        refine anyU_pure (i := 5) (v := .pointer (some ⟨g, off + i * 5, none⟩)) rfl (by kernel_rfl) (fun _ _ _ h => h) (Or.inl ⟨by rfl, fun w' hS => by go_simp⟩) (fun _ => hSW) trivial ?_
        simp only [Act.put, List.setIfInBounds_toArray, List.set_cons_zero, List.set_cons_succ]
        refine anyU_take (i := 6) (v := .agg #[.int .i64 ek, .int .i64 en, .string et, .slice na' nl nc', .slice ia' il ic']) rfl (by kernel_rfl) (fun _ _ _ h => h) (Or.inl ⟨by rfl, fun w' hS => by go_simp⟩) hSW trivial ?_
        simp only [Act.put, List.setIfInBounds_toArray, List.set_cons_zero, List.set_cons_succ]
        refine anyU_one (k := 7) (by kernel_rfl) rfl (fun K hK => ?_)
        go_simp
        refine (Hcall.out wd Hcd.out).mono ?_
        rintro e w6 ⟨v6, rfl, hv6, c6⟩
        obtain ⟨e6, rfl⟩ := hv6.ev'
        have hS6 := s7_kept (S := []) hSW c6 (fun g _ => by simp)
        refine hK _ _ (fun _ => hS6) trivial ?_
        clear hK K
        have H6 := Lib.hid (And.intro hv6 c6)
        clear hv6 c6
        unfold Ev.val
        obtain ⟨w7, hw7⟩ : ∃ x, x = w6.alloc (.cells #[.int .i64 e6.k, .int .i64 e6.n, .string e6.t, .slice e6.na e6.nl e6.nc, .slice e6.ia e6.il e6.ic] 25) := ⟨_, rfl⟩
        obtain ⟨q7, hq7⟩ : ∃ x, x = w6.heap.size := ⟨_, rfl⟩
        have hc7 : Chg [] w6 w7 := by rw [hw7]; exact (Chg.refl _ _).alloc _
        have hb7 : w7.heap[q7]? = some (.cells #[.int .i64 e6.k, .int .i64 e6.n, .string e6.t, .slice e6.na e6.nl e6.nc, .slice e6.ia e6.il e6.ic] 25 (0, 0)) := by rw [hw7, hq7]; exact heap_at _ _ _ rfl
        have hS7 := s7_kept (S := []) hS6 hc7 (fun g _ => by simp)
        have hc67 := (Hcd.out.trans H6.out.2).trans hc7
        obtain ⟨a8, c8, w8, hr8, hc8, hRL8⟩ := HC.out.push (el := el.rev) hc67 hb7 ((H6.out.1.same hc7).base Hcd.out.size) (by rw [List.length_take, revL_len]; omega) (by have := Hlen.out.2; omega) Hb2.out.2.2.1
        rw [← H5.out.2] at hRL8
        have hS8 := s7_kept hS7 hc8 (fun x hx hm => by
          have h1 := (HC.out.row.own (g := x) (by simpa using hm)).1
          have h2 := HC.out.lt
          have h3 := HC.out.ge
          have h4 := Hgw.out
          simp only at hx
          omega)
        have H8 := Lib.hid hRL8
        have Hr8 := Lib.hid hr8
        have f4 := frozen_of_heap (i := 4) ((hc8.block rb (lt_of_obj ((hc67.block rb (lt_of_obj H5.out.1) (by simp)).trans H5.out.1)) (fun hm => by
          have h1 := (HC.out.row.own (g := rb) (by simpa using hm)).1
          have h2 := HC.out.lt
          omega)).trans ((hc67.block rb (lt_of_obj H5.out.1) (by simp)).trans H5.out.1))
        refine anyU_one (k := 8) (by kernel_rfl) rfl (fun K hK => ?_)
        go_simp
        rw [← hw7, ← hq7]
        refine hK _ _ (fun _ => hS7) trivial ?_
        clear hK K hw7 hq7 hc7 hb7 hc67 hr8 hc8 hRL8
        refine anyU_one (k := 9) (by kernel_rfl) rfl (fun K hK => ?_)
        rw [if_pos (by rfl)]
        refine wp_append_run _ _ 23 rfl _ _ _ _ rfl rfl Hr8.out ?_
        refine hK _ _ (fun _ => hS8) trivial ?_
        clear hK K hS6 hS7 hSW
        simp only [Act.put, List.setIfInBounds_toArray, List.set_cons_zero, List.set_cons_succ]
        refine anyU_one (k := 10) (by kernel_rfl) rfl (fun K hK => ?_)
        go_simp
        refine hK _ _ (fun _ => hS8) trivial ?_
        clear hK K
        have k4 := hS8.1
        refine anyU_one (k := 11) (by kernel_rfl) rfl (fun K hK => ?_)
        go_simp
        refine hK _ _ (fun h => by simp at h) trivial ?_
        clear hK K
        refine anyU_done (by kernel_rfl) ?_
        go_wp2_with fail
        exact ⟨⟨i + 1, a8, c8, by omega, by go_num, H8⟩, by simp [intOf]; omega⟩
      · obtain rfl : i = es.length := by omega
        rw [List.take_of_length_le (by rw [revL_len]; omega)] at HC
        obtain ⟨c0, c1, c2, c3', c4⟩ := box_kept rb HC.out.box (Chg.refl [] wr)
        obtain ⟨r0, r1, r2, r3, r4⟩ := box_kept (b + 1) Hb2.out.2.1 HC.out.chg
        have frr := fun i => frozen_of_heap (i := i) ((HC.out.chg.block _ (lt_of_obj Hb2.out.2.1) (by simp)).trans Hb2.out.2.1)
        have lr := lt_of_cell r0
        have lc := lt_of_cell c0
        have hes3 : (es.length : Int) ≤ 9223372036854775807 := by omega
        by_cases hk : k = 5
        · subst hk
          have Hrv := Lib.hid (show (J.mk 5 n t ns es).rev = .mk 5 n t ns.reverse (revL es).reverse by rw [J.rev, if_pos rfl, if_pos rfl])
          have hnl : ns.length = es.length := (wf_obj (vd_zero.1 Hs.out.1).2.1).1
          have HRL2 : Hid (RL w2 wr f b rb B0 5 n t (.slice a3 ns.length c3) (.slice ia es.length ic) (ns.reverse.take 0 ++ ns.drop 0) ((revL es).reverse.take 0 ++ (revL es).drop 0)) := Lib.hid (by simpa using HC.out)
          have HNl := Lib.hid hnl
          clear hnl HC
          go_wp2_with fail
          go_loopw [42] (fun ii wr => ∃ (i : Nat), i ≤ es.length ∧ ii = .int .i64 (i : Nat) ∧ Hid (RL w2 wr f b rb B0 5 n t (.slice a3 ns.length c3) (.slice ia es.length ic) (ns.reverse.take i ++ ns.drop i) ((revL es).reverse.take i ++ (revL es).drop i))) (fun ii _ => es.length - (intOf ii).toNat)
          case atStart => exact ⟨0, by omega, rfl, HRL2⟩
          case round =>
            obtain ⟨i, hi, rfl, HC⟩ := hrel
            obtain ⟨b0, b1, b2, b3, b4⟩ := box_kept b Hb2.out.1 HC.out.chg
            obtain ⟨c0, c1, c2, c3', c4⟩ := box_kept rb HC.out.box (Chg.refl [] wr)
            by_cases hlt : i < es.length
            · have hij : (i : Int) < es.length := by omega
              have hi0 : (0 : Int) ≤ i := by omega
              have hin : i < ns.length := by have := HNl.out; omega
              have hin1 : (i : Int) < ns.length := by omega
              have hxl : ((revL es).reverse.take i ++ (revL es).drop i).length = es.length := by simp [revL_len]; omega
              have hnl2 : (ns.reverse.take i ++ ns.drop i).length = ns.length := by simp; omega
              obtain ⟨ge, rfl⟩ := HC.out.row.form (by omega)
              obtain ⟨gn, rfl⟩ := HC.out.nms.form (by omega)
              obtain ⟨m, hm⟩ : ∃ m : Nat, m = es.length - 1 - i := ⟨_, rfl⟩
              have hme : m < es.length := by omega
              have hmn : m < ns.length := by have := HNl.out; omega
              have hw1 : IntKind.i64.wrap ((es.length : Int) - 1) = ((es.length - 1 : Nat) : Int) := by rw [IntWalk.i64_in _ (by omega)]; omega
              have hw2 : IntKind.i64.wrap (((es.length - 1 : Nat) : Int) - i) = (m : Int) := by rw [IntWalk.i64_in _ (by omega)]; omega
              have hm0 : (0 : Int) ≤ m := by omega
              have hme1 : (m : Int) < es.length := by omega
              have hmn1 : (m : Int) < ns.length := by omega
              obtain ⟨g, off, na', nc', ia', ic', rfl, hpg, e0, e1, e2, e3, e4, f', rfl, hjv⟩ := elem_at Hes.out hme
              obtain ⟨gx, offx, rfl, _, x0, hxs⟩ := SlR.at Hns.out m hmn ⟨#[]⟩
              rw [Nat.mul_one] at x0
              obtain ⟨nm, hnm⟩ : ∃ x, ns.getD m ⟨#[]⟩ = x := ⟨_, rfl⟩
              rw [hnm] at x0 hxs
              have hcw := Hc2.out.trans HC.out.chg
              have hgw := lt_of_cell e0
              have hxw := lt_of_cell x0
              replace x0 := (hcw.cell (lt_of_cell x0) (by simp)).trans x0
              replace e0 := (hcw.cell (lt_of_cell e0) (by simp)).trans e0
              replace e1 := (hcw.cell (lt_of_cell e1) (by simp)).trans e1
              replace e2 := (hcw.cell (lt_of_cell e2) (by simp)).trans e2
              replace e3 := (hcw.cell (lt_of_cell e3) (by simp)).trans e3
              replace e4 := (hcw.cell (lt_of_cell e4) (by simp)).trans e4
              obtain ⟨el, hel⟩ : ∃ el, el = es[m] := ⟨_, rfl⟩
              rw [← hel] at e0 e1 e2 e3 e4 hjv
              have hsm : Sm el := Hs.out.elem (hel ▸ List.getElem_mem hme)
              obtain ⟨ek, hek⟩ : ∃ x, x = el.kind := ⟨_, rfl⟩
              obtain ⟨en, hen⟩ : ∃ x, x = el.num := ⟨_, rfl⟩
              obtain ⟨et, het⟩ : ∃ x, x = el.text := ⟨_, rfl⟩
              rw [← hek] at e0 hjv
              rw [← hen] at e1 hjv
              rw [← het] at e2 hjv
              obtain ⟨nl, hnl⟩ : ∃ x, x = el.names.length := ⟨_, rfl⟩
              obtain ⟨il, hil⟩ : ∃ x, x = el.elems.length := ⟨_, rfl⟩
              rw [← hnl] at e3 hjv
              rw [← hil] at e4 hjv
              have hR1 : (revL es).reverse.length = (revL es).length := List.length_reverse
              have hN1 : ns.reverse.length = ns.length := List.length_reverse
              have hiR : i < (revL es).reverse.length := by rw [hR1, revL_len]; exact hlt
              have hiN : i < ns.reverse.length := by rw [hN1]; exact hin
              have hxe : (revL es).reverse[i] = el.rev := by
                rw [List.getElem_reverse]
                simp only [revL_map, List.getElem_map, List.length_map, hel, hm]
              have hne : ns.reverse[i] = nm := by
                rw [List.getElem_reverse, ← hnm, List.getD_eq_getElem?_getD, List.getElem?_eq_getElem hmn, Option.getD_some]
                have := HNl.out
                congr 1
                omega
              have hsx := list_swap hR1 hiR
              rw [hxe] at hsx
              have hsn := list_swap hN1 hiN
              rw [hne] at hsn
              have Hcall := Lib.hid (fun W (hW : Chg [] wr W) => ih f' (by omega) W el _ (hjv.kept (S := fun _ => False) (hcw.trans hW).p (fun _ _ h => h)) hsm)
              have hEc := HC.out.row.cells (i := i) (by rw [hxl]; exact hlt)
              have hNc := HC.out.nms.cells (i := i) (by rw [hnl2]; exact hin)
              have Hs2 := Lib.hid (And.intro hsx (And.intro hsn (And.intro hxl (And.intro hnl2 hxs))))
              have hbw := Hb2.out.2.2.2
              have Hgs := Lib.hid (show g < b ∧ gx < b by rw [hbw]; exact ⟨hgw, hxw⟩)
              obtain ⟨⟨t0, tc0⟩, ⟨t1, tc1⟩, ⟨t2, tc2⟩, ⟨t3, tc3⟩, ⟨t4, tc4⟩⟩ := And.intro (hEc.1 0 (by decide)) (And.intro (hEc.1 1 (by decide)) (And.intro (hEc.1 2 (by decide)) (And.intro (hEc.1 3 (by decide)) (hEc.1 4 (by decide)))))
              obtain ⟨tn, tcn⟩ := hNc.1
              have fe := hEc.2
              have fn := hNc.2
              have lg := lt_of_cell e0
              have lx := lt_of_cell x0
              have lge := lt_of_cell tc0
              have lgn := lt_of_cell tcn
              clear hek hen het hnl hil hjv hpg hsm hcw hgw hxw hel hxe hne hsx hsn hR1 hN1 hiR hiN hnm hEc hNc hxl hnl2 hxs hbw hm
              go_upto_region 12 with fail
              refine wp_region_U (sR b rb gn ge g off gx offx m i ns.length c3 es.length ic nc cap nl il ek en et nm na' nc' ia' ic') (sR b rb gn ge g off gx offx m i ns.length c3 es.length ic nc cap nl il ek en et nm na' nc' ia' ic') 26 (by kernel_rfl) ?_
              intro wd hwd
              have hcd : Chg [] wr wd := by rw [hwd]; exact (Chg.refl _ _).drew
              have hSr : sR b rb gn ge g off gx offx m i ns.length c3 es.length ic nc cap nl il ek en et nm na' nc' ia' ic' wr := ⟨c4, c3', b4, b3, x0, e0, e1, e2, e3, e4⟩
              have hSW := hSr.kept (S := []) hcd (fun g _ => by simp)
              have Hcd := Lib.hid hcd
              clear hwd hcd hSr e0 e1 e2 e3 e4 x0
              refine anyU_pure (i := 0) (v := .pointer (some ⟨rb, 4, none⟩)) rfl (by kernel_rfl) (fun _ _ _ h => h) (Or.inl ⟨by rfl, fun w' hS => by go_simp⟩) (fun _ => hSW) hSW ?_
              simp only [Act.put, List.setIfInBounds_toArray, List.set_cons_zero, List.set_cons_succ]
              refine anyU_keep (i := 1) (v := .slice (some ⟨ge, 0, none⟩) es.length ic) rfl (by kernel_rfl) (fun _ _ _ h => h) (Or.inl ⟨by rfl, fun w' hS => by unfold sR at hS; go_simp⟩) (fun _ h => h) (fun _ => hSW) hSW ?_
              simp only [Act.put, List.setIfInBounds_toArray, List.set_cons_zero, List.set_cons_succ]
              refine anyU_pure (i := 2) (v := .int .i64 (i : Nat)) rfl (by kernel_rfl) (fun _ _ _ h => h) (Or.inl ⟨by rfl, fun w' hS => by go_simp⟩) (fun _ => hSW) hSW ?_
              simp only [Act.put, List.setIfInBounds_toArray, List.set_cons_zero, List.set_cons_succ]
              refine anyU_pure (i := 3) (v := .pointer (some ⟨rb, 3, none⟩)) rfl (by kernel_rfl) (fun _ _ _ h => h) (Or.inl ⟨by rfl, fun w' hS => by go_simp⟩) (fun _ => hSW) hSW ?_
              simp only [Act.put, List.setIfInBounds_toArray, List.set_cons_zero, List.set_cons_succ]
              refine anyU_keep (i := 4) (v := .slice (some ⟨gn, 0, none⟩) ns.length c3) rfl (by kernel_rfl) (fun _ _ _ h => h) (Or.inl ⟨by rfl, fun w' hS => by unfold sR at hS; go_simp⟩) (fun _ h => h) (fun _ => hSW) hSW ?_
              simp only [Act.put, List.setIfInBounds_toArray, List.set_cons_zero, List.set_cons_succ]
              refine anyU_pure (i := 5) (v := .int .i64 (i : Nat)) rfl (by kernel_rfl) (fun _ _ _ h => h) (Or.inl ⟨by rfl, fun w' hS => by go_simp⟩) (fun _ => hSW) hSW ?_
              simp only [Act.put, List.setIfInBounds_toArray, List.set_cons_zero, List.set_cons_succ]
              refine anyU_pure (i := 6) (v := .pointer (some ⟨b, 4, none⟩)) rfl (by kernel_rfl) (fun _ _ _ h => h) (Or.inl ⟨by rfl, fun w' hS => by go_simp⟩) (fun _ => hSW) hSW ?_
              simp only [Act.put, List.setIfInBounds_toArray, List.set_cons_zero, List.set_cons_succ]
              refine anyU_keep (i := 7) (v := .slice (some ⟨g, off, none⟩) es.length cap) rfl (by kernel_rfl) (fun _ _ _ h => h) (Or.inl ⟨by rfl, fun w' hS => by unfold sR at hS; go_simp⟩) (fun _ h => h) (fun _ => hSW) hSW ?_
              simp only [Act.put, List.setIfInBounds_toArray, List.set_cons_zero, List.set_cons_succ]
              refine anyU_pure (i := 8) (v := .int .i64 (es.length : Nat)) rfl (by kernel_rfl) (fun _ _ _ h => h) (Or.inl ⟨by rfl, fun w' hS => by go_simp⟩) (fun _ => hSW) hSW ?_
              simp only [Act.put, List.setIfInBounds_toArray, List.set_cons_zero, List.set_cons_succ]
              refine anyU_pure (i := 9) (v := .int .i64 ((es.length - 1 : Nat) : Int)) rfl (by kernel_rfl) (fun _ _ _ h => h) (Or.inl ⟨by rfl, fun w' hS => by go_simp⟩) (fun _ => hSW) hSW ?_
              simp only [Act.put, List.setIfInBounds_toArray, List.set_cons_zero, List.set_cons_succ]
              refine anyU_pure (i := 10) (v := .int .i64 (i : Nat)) rfl (by kernel_rfl) (fun _ _ _ h => h) (Or.inl ⟨by rfl, fun w' hS => by go_simp⟩) (fun _ => hSW) hSW ?_
              simp only [Act.put, List.setIfInBounds_toArray, List.set_cons_zero, List.set_cons_succ]
              refine anyU_pure (i := 11) (v := .int .i64 (m : Nat)) rfl (by kernel_rfl) (fun _ _ _ h => h) (Or.inl ⟨by rfl, fun w' hS => by go_simp⟩) (fun _ => hSW) hSW ?_
              simp only [Act.put, List.setIfInBounds_toArray, List.set_cons_zero, List.set_cons_succ]
              refine anyU_pure (i := 12) (v := .pointer (some ⟨g, off + m * 5, none⟩)) rfl (by kernel_rfl) (fun _ _ _ h => h) (Or.inl ⟨by rfl, fun w' hS => by go_simp⟩) (fun _ => hSW) hSW ?_
              simp only [Act.put, List.setIfInBounds_toArray, List.set_cons_zero, List.set_cons_succ]
              refine anyU_keep (i := 13) (v := .agg #[.int .i64 ek, .int .i64 en, .string et, .slice na' nl nc', .slice ia' il ic']) rfl (by kernel_rfl) (fun _ _ _ h => h) (Or.inl ⟨by rfl, fun w' hS => by unfold sR at hS; go_simp⟩) (fun _ h => h) (fun _ => hSW) hSW ?_
              simp only [Act.put, List.setIfInBounds_toArray, List.set_cons_zero, List.set_cons_succ]
              refine anyU_pure (i := 15) (v := .pointer (some ⟨b, 3, none⟩)) rfl (by kernel_rfl) (fun _ _ _ h => h) (Or.inl ⟨by rfl, fun w' hS => by go_simp⟩) (fun _ => hSW) hSW ?_
              simp only [Act.put, List.setIfInBounds_toArray, List.set_cons_zero, List.set_cons_succ]
              refine anyU_keep (i := 16) (v := .slice (some ⟨gx, offx, none⟩) ns.length nc) rfl (by kernel_rfl) (fun _ _ _ h => h) (Or.inl ⟨by rfl, fun w' hS => by unfold sR at hS; go_simp⟩) (fun _ h => h) (fun _ => hSW) hSW ?_
              simp only [Act.put, List.setIfInBounds_toArray, List.set_cons_zero, List.set_cons_succ]
              refine anyU_pure (i := 17) (v := .int .i64 (es.length : Nat)) rfl (by kernel_rfl) (fun _ _ _ h => h) (Or.inl ⟨by rfl, fun w' hS => by go_simp⟩) (fun _ => hSW) hSW ?_
              simp only [Act.put, List.setIfInBounds_toArray, List.set_cons_zero, List.set_cons_succ]
              refine anyU_pure (i := 18) (v := .int .i64 ((es.length - 1 : Nat) : Int)) rfl (by kernel_rfl) (fun _ _ _ h => h) (Or.inl ⟨by rfl, fun w' hS => by go_simp⟩) (fun _ => hSW) hSW ?_
              simp only [Act.put, List.setIfInBounds_toArray, List.set_cons_zero, List.set_cons_succ]
              refine anyU_pure (i := 19) (v := .int .i64 (i : Nat)) rfl (by kernel_rfl) (fun _ _ _ h => h) (Or.inl ⟨by rfl, fun w' hS => by go_simp⟩) (fun _ => hSW) hSW ?_
              simp only [Act.put, List.setIfInBounds_toArray, List.set_cons_zero, List.set_cons_succ]
              refine anyU_pure (i := 20) (v := .int .i64 (m : Nat)) rfl (by kernel_rfl) (fun _ _ _ h => h) (Or.inl ⟨by rfl, fun w' hS => by go_simp⟩) (fun _ => hSW) hSW ?_
              simp only [Act.put, List.setIfInBounds_toArray, List.set_cons_zero, List.set_cons_succ]
              refine anyU_pure (i := 21) (v := .pointer (some ⟨gx, offx + m, none⟩)) rfl (by kernel_rfl) (fun _ _ _ h => h) (Or.inl ⟨by rfl, fun w' hS => by go_simp⟩) (fun _ => hSW) hSW ?_
              simp only [Act.put, List.setIfInBounds_toArray, List.set_cons_zero, List.set_cons_succ]
              refine anyU_keep (i := 22) (v := .string nm) rfl (by kernel_rfl) (fun _ _ _ h => h) (Or.inl ⟨by rfl, fun w' hS => by unfold sR at hS; go_simp⟩) (fun _ h => h) (fun _ => hSW) hSW ?_
              simp only [Act.put, List.setIfInBounds_toArray, List.set_cons_zero, List.set_cons_succ]
              refine anyU_one (k := 14) (by kernel_rfl) rfl (fun K hK => ?_)
              go_simp
              refine (Hcall.out wd Hcd.out).mono ?_
              rintro e w6 ⟨v6, rfl, hv6, c6⟩
              obtain ⟨e6, rfl⟩ := hv6.ev'
              have hS6 := hSW.kept (S := []) c6 (fun g _ => by simp)
              refine hK _ _ (fun _ => hS6) hS6 ?_
              clear hK K
              have H6 := Lib.hid (And.intro hv6 (Hcd.out.trans c6))
              have hc06 := Hcd.out.trans c6
              clear hv6 c6
              unfold Ev.val
              have hgs := Hgs.out
              have hge2 := HC.out.row.own (g := ge) rfl
              have hlt2 := HC.out.lt
              have hgb := HC.out.ge
              have hgn2 := HC.out.nb gn rfl
              have hgn3 := (ownsRow_ge HC.out.nms.1 (g := gn) rfl).1
              have hsw := HC.out.swap hc06 (H6.out.1.base Hcd.out.size) (i := i) (s := nm) (by rw [Hs2.out.2.2.1]; exact hlt) (by rw [Hs2.out.2.2.2.1]; exact hin) Hs2.out.2.2.2.2 Hb2.out.2.2.1
              rw [Hs2.out.1, Hs2.out.2.1] at hsw
              have Hsw := Lib.hid hsw
              rw [Nat.add_zero] at tc0
              replace tc0 := (hc06.cell (lt_of_cell tc0) (by simp)).trans tc0
              replace tc1 := (hc06.cell (lt_of_cell tc1) (by simp)).trans tc1
              replace tc2 := (hc06.cell (lt_of_cell tc2) (by simp)).trans tc2
              replace tc3 := (hc06.cell (lt_of_cell tc3) (by simp)).trans tc3
              replace tc4 := (hc06.cell (lt_of_cell tc4) (by simp)).trans tc4
              replace tcn := (hc06.cell (lt_of_cell tcn) (by simp)).trans tcn
              have lge6 := lt_of_cell tc0
              have fe6 : ∀ k, w6.frozen? ⟨ge, k, none⟩ = false := fun k => (hc06.frozen (p := ⟨ge, k, none⟩) hge2.2 (by simp)).trans (fe k)
              have fn6 : ∀ k, w6.frozen? ⟨gn, k, none⟩ = false := fun k => (hc06.frozen (p := ⟨gn, k, none⟩) (ownsRow_ge HC.out.nms.1 (g := gn) rfl).2 (by simp)).trans (fn k)
              have hcs := st5_chg w6 ge (i * 5) e6
              have hS7 := hS6.kept hcs (fun x hx => by rw [List.mem_singleton]; rintro rfl; omega)
              have hnn : gn ∉ [ge] := by rw [List.mem_singleton]; omega
              have ln6 := lt_of_cell tcn
              have tcn7 := (hcs.cell (p := ⟨gn, i, none⟩) ln6 hnn).trans tcn
              have fn7 := (hcs.frozen (p := ⟨gn, i, none⟩) ln6 hnn).trans (fn6 i)
              have hS8 := hS7.kept (S := [gn]) (w' := (st5 w6 ge (i * 5) e6).setCell ⟨gn, i, none⟩ (.string nm)) ((Chg.refl [gn] _).setCell (Or.inl (by simp)) _) (fun x hx => by rw [List.mem_singleton]; rintro rfl; omega)
              clear hsw hcs hge2 hlt2 hgb hgn2 hc06 hSW
              refine anyU_one (k := 23) (by kernel_rfl) rfl (fun K hK => ?_)
              go_simp
              refine hK _ _ (fun _ => hS6) hS6 ?_
              clear hK K
              refine anyU_one (k := 24) (by kernel_rfl) rfl (fun K hK => ?_)
              go_simp
              refine hK _ _ (fun _ => hS7) hS7 ?_
              clear hK K hS6 tc0 tc1 tc2 tc3 tc4
              generalize hw7 : st5 w6 ge (i * 5) e6 = w7 at hS7 hS8 tcn7 fn7 Hsw
              unfold st5 at hw7
              rw [hw7]
              clear hw7
              refine anyU_one (k := 25) (by kernel_rfl) rfl (fun K hK => ?_)
              go_simp
              refine hK _ _ (fun _ => hS7) hS7 ?_
              clear hK K
              refine anyU_one (k := 26) (by kernel_rfl) rfl (fun K hK => ?_)
              go_simp
              refine hK _ _ (fun h => by simp at h) hS8 ?_
              clear hK K
              refine anyU_done (by kernel_rfl) ?_
              go_wp2_with fail
              exact ⟨⟨i + 1, by omega, by go_num, Hsw⟩, by simp [intOf]; omega⟩
            · obtain rfl : i = es.length := by omega
              have hR1 : (revL es).reverse.length = es.length := by rw [List.length_reverse, revL_len]
              have hN1 : ns.reverse.length = es.length := by rw [List.length_reverse]; exact HNl.out
              rw [List.take_of_length_le (by omega), List.take_of_length_le (by omega), List.drop_of_length_le (by have := HNl.out; omega), List.drop_of_length_le (by rw [revL_len]; omega), List.append_nil, List.append_nil] at HC
              obtain ⟨r0, r1, r2, r3, r4⟩ := box_kept (b + 1) Hb2.out.2.1 HC.out.chg
              have frr := fun i => frozen_of_heap (i := i) ((HC.out.chg.block _ (lt_of_obj Hb2.out.2.1) (by simp)).trans Hb2.out.2.1)
              have lr := lt_of_cell r0
              have lc := lt_of_cell c0
              clear hR1 hN1
              go_wp2_with fail
              have hD := HC.out.done Hc2.out Hb2.out.2.2.2 Hb2.out.2.2.1 Hts.out
              refine bodyPost_ret (v := .agg #[.int .i64 5, .int .i64 n, .string t, .slice a3 ns.length c3, .slice ia es.length ic]) (by simp [results, Tryd.results10, go_sem, r0, r1, r2, r3, r4]) rfl ?_
              exact ⟨_, rfl, by rw [Hrv.out]; exact hD.1, hD.2⟩
        · have hkb : (k == 5) = false := by simpa using hk
          have hkd : decide (k = 5) = false := decide_eq_false hk
          have Hrv := Lib.hid (show (J.mk k n t ns es).rev = .mk k n t ns (revL es) by rw [J.rev, if_neg hk, if_neg hk])
          clear hk
          go_wp2_with fail
          have hD := HC.out.done Hc2.out Hb2.out.2.2.2 Hb2.out.2.2.1 Hts.out
          refine bodyPost_ret (v := .agg #[.int .i64 k, .int .i64 n, .string t, .slice a3 ns.length c3, .slice ia es.length ic]) (by simp [results, Tryd.results10, go_sem, r0, r1, r2, r3, r4]) rfl ?_
          exact ⟨_, rfl, by rw [Hrv.out]; exact hD.1, hD.2⟩
theorem rev_any (p : Nat → Prop) : ∀ (f : Nat) (w : World) (j : J) (v : Value), JV p f w v j → Sm j → Calls Tryd.prog 10 #[v] w (RevPost j (f + 1) w) := by
  intro f
  induction f using Nat.strongRecOn with
  | ind f ih => exact fun w j v h1 h2 => rev_step p f ih w j v h1 h2
end Go.Proofs.YtpnaegfldkjikaaDoor.Jv
