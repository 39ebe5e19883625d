/- slices.Insert at keys: ground. -/
import Derived.Test.YtenjjiilcdgimaaDgB
import Derived.Laws.CopyRow
import Derived.Laws.CopyOwn
import Derived.Lib.AppendZerosOnto
import Derived.Lib.Overlaps
import Derived.Laws.Externs
namespace Go.Proofs.Ytenjjiilcdgimaa
open Go.RowKit Go.ChangeMaps Go.MapKept Go.Shelf
set_option linter.unusedVariables false
set_option linter.unusedSimpArgs false
def kCells (l : List I3) : List Value := l.flatMap fun k => [.int .i64 k.1, .int .i64 k.2.1, .int .i64 k.2.2]
theorem kCells_len (l : List I3) : (kCells l).length = l.length * 3 := by
  induction l with
  | nil => rfl
  | cons x r ih => simp [kCells, List.flatMap_cons] at ih ⊢; omega
theorem kCells_append (l m : List I3) : kCells (l ++ m) = kCells l ++ kCells m := by simp [kCells, List.flatMap_append]
theorem kCells_one (k : I3) : kCells [k] = [.int .i64 k.1, .int .i64 k.2.1, .int .i64 k.2.2] := by simp [kCells]
theorem kCells_oneCell (l : List I3) : ∀ u ∈ kCells l, u.oneCell' = true := by
  intro u hu
  simp only [kCells, List.mem_flatMap, List.mem_cons, List.not_mem_nil, or_false] at hu
  obtain ⟨e, _, h | h | h⟩ := hu <;> subst h <;> rfl
theorem kCells_get (xs : List I3) (j : Nat) (h : j < xs.length) : (kCells xs)[j * 3]? = some (.int .i64 xs[j].1) ∧ (kCells xs)[j * 3 + 1]? = some (.int .i64 xs[j].2.1) ∧ (kCells xs)[j * 3 + 2]? = some (.int .i64 xs[j].2.2) := by
  induction xs generalizing j with
  | nil => simp at h
  | cons x r ih =>
    cases j with
    | zero => simp [kCells, List.flatMap_cons]
    | succ j =>
      have := ih j (by simpa using h)
      simp only [kCells, List.flatMap_cons] at this ⊢
      rw [show (j + 1) * 3 = j * 3 + 3 by omega, show j * 3 + 3 + 1 = j * 3 + 1 + 3 by omega, show j * 3 + 3 + 2 = j * 3 + 2 + 3 by omega]
      simpa using this
/-- keys of the call's own -/
def OwnK (w : World) (base : Nat) (v : Value) (l : List I3) : Prop := w.ownsRow base 24 3 v l.length (kCells l)
theorem OwnK.nil (w : World) (base : Nat) : OwnK w base (.slice none 0 0) [] := ⟨rfl, .inl ⟨rfl, rfl⟩⟩
theorem OwnK.kept {w w' : World} {base : Nat} {v : Value} {xs : List I3} {S : Nat → Prop} (h : OwnK w base v xs) (hc : ChgP S w w') (hS : ∀ g, v.ownBlock = some g → ¬ S g) : OwnK w' base v xs :=
  ownsRow_kept h fun g hg hl => hc.block g hl (hS g hg)
theorem OwnK.same {w w' : World} {base : Nat} {v : Value} {xs : List I3} (h : OwnK w base v xs) (hc : Chg [] w w') : OwnK w' base v xs := h.kept (hc.p (S := fun _ => False)) fun _ _ h => h
theorem OwnK.i3s {w : World} {base : Nat} {v : Value} {xs : List I3} (h : OwnK w base v xs) : I3s (fun g => base ≤ g ∧ g < w.heap.size ∧ v.ownBlock = some g) w v xs := by
  obtain ⟨a, cap, rfl⟩ := ownsRow_shape h
  rcases h.2 with ⟨hv, hx⟩ | ⟨g, cap', cur', hv, hge, hh, h3, h4, h5, h6⟩
  · have hk : xs = [] := List.eq_nil_of_length_eq_zero hx
    subst hk
    simp only [List.length_nil, Value.slice.injEq] at hv
    obtain ⟨rfl, _, rfl⟩ := hv
    exact SlR.nil _ _ _ _
  · cases hv
    refine ⟨_, cap, rfl, by omega, by omega, fun _ => ⟨g, 0, rfl, ⟨hge, lt_of_obj hh, rfl⟩, fun j hj => ?_⟩⟩
    obtain ⟨e0, e1, e2⟩ := kCells_get xs j hj
    have hc : ∀ k u, (kCells xs)[k]? = some u → w.cell? ⟨g, k, none⟩ = some u := by
      intro k u hk
      have := World.ownsRow.cells h (g := g) rfl k u hk
      rwa [Addr.add_lit, Nat.zero_add] at this
    unfold rdI3
    rw [Nat.zero_add]
    exact ⟨hc _ _ e0, hc _ _ e1, hc _ _ e2⟩
theorem Try.infoK : (Try.prog.info? 24).map (fun i => (i.zero, i.size, i.bytes)) = some (some (.agg #[.int .i64 0, .int .i64 0, .int .i64 0]), 3, 24) := by kernel_rfl
theorem news_of {w : World} {g : Nat} {c : Array Value} {E : TypeId} {fr : Nat × Nat} (h : w.heap[g]? = some (.cells c E fr)) : ∀ j u, c.toList[j]? = some u → w.cell? ((⟨g, 0, none⟩ : Addr).add j) = some u := by
  intro j u hj
  rw [Addr.add_lit]
  exact cell_of_heap h (by simpa using hj)
theorem own_chg {w w1 : World} {v : Value} {base k size : Nat} {e : TypeId} {cs : List Value} (hv : w.ownsRow base e size v k cs) (hg : w.grownBy w1 v.ownBlock) : Chg v.ownBlock.toList w w1 ∧ ∀ g ∈ v.ownBlock.toList, base ≤ g := by
  refine ⟨(Chg.refl _ w).grown hg (fun j hj => Or.inl (by simp [hj])), fun g hg' => ?_⟩
  rcases hv.2 with ⟨rfl, _⟩ | ⟨g', cap, cur, rfl, hb, hgg, _⟩
  · simp [Value.ownBlock] at hg'
  · simp [Value.ownBlock] at hg'
    subst hg'
    exact hb
/-- copy of elements of k cells into a row that is known whole -/
theorem run_copy_rowK {P : Program} (w : World) (dT sT ty elem : TypeId) (sz g o dLen dCap n : Nat) (a : Addr) (sLen sCap : Nat) (cur : Array Value) (t : TypeId) (cs : List Value)
    (hu : P.underlying dT = some (.slice elem)) (hs : (P.info? elem).map (·.size) = some sz)
    (hg : w.heap[g]? = some (.cells cur t (0, 0))) (hn : n = Nat.min sLen dLen) (hl : cs.length = n * sz)
    (hsrc : ∀ j v, cs[j]? = some v → w.cell? (a.add j) = some v) (hfit : o + cs.length ≤ cur.size) (h1 : ∀ v ∈ cs, v.oneCell' = true) :
    (Builtin.copy_ #[dT, sT] ty #[.slice (some ⟨g, o, none⟩) dLen dCap, .slice (some a) sLen sCap]).run P w =
      .ok (goInt n) (w.setRow g (cur.toList.take o ++ cs ++ cur.toList.drop (o + cs.length)).toArray) := by
  have hld := run_loadCells_list (P := P) w a cs hsrc
  have hst := run_storeCells_at P g o t cs 0 cur w hg (by simpa using hfit) h1
  cases hq : P.info? elem with
  | none => simp [hq] at hs
  | some i =>
    have hi : i.size = sz := by simpa [hq] using hs
    subst hn
    rw [hl] at hld
    simp [Builtin.copy_, run_underlying hu, Builtin.lenOf, Builtin.firstCells, sizeOf, typeInfo, hq, hi, hld, hst]
theorem wp_copy_runI {P : Program} (w : World) {o : Oper} {a : Act} {K : Act → World → Prop} {Q : Exit → Act → World → Prop} (d s : Operand) (t t' : TypeId)
    (ho : o.op = .call { callee := .builtin .copy, args := #[d, s], argTypes := #[t, t'] }) (v u : Value) (hd : a.eval d = v) (hs : a.eval s = u) {v' : Value} {w' : World}
    (hr : (Builtin.copy_ #[t, t'] o.type #[v, u]).run P w = .ok v' w') (h : K (a.put o.dst v') w') : o.wp P a w K Q := by
  unfold Oper.wp execOp
  simp only [ho, resolve, invoke, builtin, Sem.run_bind, Sem.run_pure, Result.andThen_ok, List.map_toArray, List.map_cons, List.map_nil, hd, hs, hr]
  exact h
theorem wpList_copy_runI {P : Program} (w : World) {ops : Array Oper} {rest : List Oper} {o : Oper} {a : Act} {Q : Exit → Act → World → Prop} (hgd : o.guard = none) (d s : Operand) (t t' : TypeId)
    (ho : o.op = .call { callee := .builtin .copy, args := #[d, s], argTypes := #[t, t'] }) (v u : Value) (hd : a.eval d = v) (hs : a.eval s = u) {v' : Value} {w' : World}
    (hr : (Builtin.copy_ #[t, t'] o.type #[v, u]).run P w = .ok v' w') (h : wpList P ops Q rest (a.put o.dst v') w') : wpList P ops Q (o :: rest) a w :=
  wpList_plain hgd fun _ hK => wp_copy_runI w d s t t' ho v u hd hs hr (hK _ _ h)
theorem step_copy_runI {P : Program} {ops : Array Oper} {o : Oper} {a : Act} {w : World} {K : Act → World → Prop} {Q : Exit → Act → World → Prop} {E : Prop}
    (hg : o.guard = none) (d x : Operand) (dT sT : TypeId) (hop : o.op = Op.call { callee := Callee.builtin Builtin.copy, args := #[d, x], argTypes := #[dT, sT] })
    (v u : Value) (hd : a.eval d = v) (hx : a.eval x = u) {v' : Value} {w' : World} (hr : (Builtin.copy_ #[dT, sT] o.type #[v, u]).run P w = .ok v' w') (hK : K (a.put o.dst v') w') :
    if Region.wanted o (yielded ops a.tmps) = true then Oper.wp P o a w K Q else E := by
  have hw : Region.wanted o (yielded ops a.tmps) = true := by simp [Region.wanted, hg]
  rw [if_pos hw]
  exact wp_copy_runI w d x dT sT hop v u hd hx hr hK
/-- the two copies of an insertion, on the row's cells -/
theorem shift_list {α : Type} (C A B K : List α) (R : List α) (k : Nat) (hC : C = A ++ B ++ R) (hK : K.length = k) (hR : k ≤ R.length) :
    (((C.take (A.length + k) ++ B ++ C.drop (A.length + k + B.length)).take A.length ++ K ++ (C.take (A.length + k) ++ B ++ C.drop (A.length + k + B.length)).drop (A.length + k))) = A ++ K ++ B ++ R.drop k := by
  have hl : (C.take (A.length + k)).length = A.length + k := by rw [List.length_take, hC]; simp; omega
  have e1 : (C.take (A.length + k) ++ B ++ C.drop (A.length + k + B.length)).take A.length = A := by
    rw [List.append_assoc, List.take_append_of_le_length (by omega), List.take_take, hC, List.append_assoc, Nat.min_eq_left (by omega), List.take_left]
  have e2 : (C.take (A.length + k) ++ B ++ C.drop (A.length + k + B.length)).drop (A.length + k) = B ++ C.drop (A.length + k + B.length) := by
    rw [List.append_assoc, List.drop_left' hl]
  have e3 : C.drop (A.length + k + B.length) = R.drop k := by
    rw [hC, show A.length + k + B.length = (A ++ B).length + k by simp; omega, List.drop_length_add_append]
  rw [e1, e2, e3]
  simp
end Go.Proofs.Ytenjjiilcdgimaa
