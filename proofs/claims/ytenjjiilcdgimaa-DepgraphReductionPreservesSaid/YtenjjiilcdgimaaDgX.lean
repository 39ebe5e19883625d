/- Edges: equality, slices.Index, slices.Contains; rows of edges of a call's own; Clone. -/
import Derived.Test.YtenjjiilcdgimaaDgV
namespace Go.Proofs.Ytenjjiilcdgimaa
open Go.RowKit Go.ChangeMaps Go.MapKept Go.Shelf
open Go.Maps (Keyed)
set_option linter.unusedVariables false
set_option linter.unusedSimpArgs false
def edv (e : Ed) : Value := .agg #[.int .i64 e.1.1, .int .i64 e.1.2.1, .int .i64 e.1.2.2, .int .i64 e.2.1, .int .i64 e.2.2.1, .int .i64 e.2.2.2]
theorem edv_inj (x y : Ed) (h : edv x = edv y) : x = y := by
  obtain ⟨⟨a, b, c⟩, d, e, f⟩ := x
  obtain ⟨⟨a', b', c'⟩, d', e', f'⟩ := y
  simp only [edv, Value.agg.injEq] at h
  have h1 := congrArg Array.toList h
  simp at h1
  simp [h1]
theorem keyLits3 {P : Program} {t ti : TypeId} {f0 f1 f2 : Field} (n : Nat) (hu : P.underlying t = some (.struct #[f0, f1, f2])) (h0 : f0.type = ti) (h1 : f1.type = ti) (h2 : f2.type = ti) (o0 : f0.offset = 0) (o1 : f1.offset = 1) (o2 : f2.offset = 2)
    (hn : (f0.name != "_" && f1.name != "_" && f2.name != "_") = true) (hi : P.underlying ti = some (.int .i64)) (hc : P.cellsOf t = 3) (hci : P.cellsOf ti = 1) {a b c : Int} (wa : (Lit.int .i64 a).wf = true) (wb : (Lit.int .i64 b).wf = true) (wc : (Lit.int .i64 c).wf = true) :
    P.keyLits (n + 1 + 1) t [.int .i64 a, .int .i64 b, .int .i64 c] = some [.int .i64 a, .int .i64 b, .int .i64 c] := by
  have e : ∀ m, (Lit.int .i64 m).wf = true → P.keyLits (n + 1) ti [.int .i64 m] = some [.int .i64 m] := fun m hm => by
    unfold Program.keyLits
    rw [hi]
    simp [hm]
  unfold Program.keyLits
  rw [hu]
  simp only [Bool.and_eq_true] at hn
  simp [hc, h0, h1, h2, o0, o1, o2, hci, e a wa, e b wb, e c wc, hn]
theorem Try.rowEd : (37 : TypeId) < Try.prog.types.size := of_decide_eq_true (by kernel_rfl)
theorem Try.wideEd : (match Try.prog.underlying 37 with | some (.array _ _) | some (.struct _) => true | _ => false) = true := by rw [Try.underlying37]
theorem Try.cellsEd' : Try.prog.cellsOf 37 = 6 := by kernel_rfl
theorem Try.keysEd : Try.prog.keyType 37 = true := by kernel_rfl
theorem Try.sizeT : 2 < Try.prog.types.size := of_decide_eq_true (by kernel_rfl)
set_option maxRecDepth 100000 in
theorem edkeyed : Keyed Try.prog 37 := Keyed.of_law (deep_law_laid Try.laidOut (m := 3) (by omega) Try.rowEd (by kernel_rfl) Try.wideEd)
theorem edOk {e : Ed} (h : QKok e.1 ∧ QKok e.2) : KeyOk Try.prog 37 (edv e) := by
  obtain ⟨m, hm⟩ : ∃ m, Try.prog.types.size = m + 1 + 1 := ⟨Try.prog.types.size - 2, by have := Try.sizeT; omega⟩
  have k3 : ∀ k : I3, QKok k → Try.prog.keyLits (m + 1 + 1) 24 [.int .i64 k.1, .int .i64 k.2.1, .int .i64 k.2.2] = some [.int .i64 k.1, .int .i64 k.2.1, .int .i64 k.2.2] := fun k hk =>
    keyLits3 m Try.underlying24 rfl rfl rfl rfl rfl rfl (by decide) Try.underlying3 Try.cellsQK Try.cellsInt (wf64 hk.1) (wf64 hk.2.1) (wf64 hk.2.2)
  have e6 : Try.prog.keyLits (m + 1 + 1 + 1) 37 [.int .i64 e.1.1, .int .i64 e.1.2.1, .int .i64 e.1.2.2, .int .i64 e.2.1, .int .i64 e.2.2.1, .int .i64 e.2.2.2] = some [.int .i64 e.1.1, .int .i64 e.1.2.1, .int .i64 e.1.2.2, .int .i64 e.2.1, .int .i64 e.2.2.1, .int .i64 e.2.2.2] := by
    unfold Program.keyLits
    rw [Try.underlying37]
    simp [Try.cellsEd', Try.cellsQK, k3 e.1 h.1, k3 e.2 h.2]
  unfold KeyOk keyOf edv
  rw [Try.underlying37]
  simp [Try.keysEd, Value.formed, Try.underlying37, Try.cellsEd', Value.cells, hm, e6]
theorem ed_eqlE {x y : Ed} (hx : QKok x.1 ∧ QKok x.2) (hy : QKok y.1 ∧ QKok y.2) (w : World) : (binOp .eql 37 (edv x) (edv y)).run Try.prog w = .ok (.bool (decide (x = y))) w := by
  obtain ⟨lx, hlx⟩ := edOk hx
  obtain ⟨ly, hly⟩ := edOk hy
  obtain ⟨r, hr, hiff⟩ := run_equal_deep w (m := 3) (by omega) (by kernel_rfl) Try.wideEd hlx hly
  have hr' : (Op.equalIn 10000 37 (edv x) (edv y)).run Try.prog w = .ok r w := by
    rw [← hr]
    simp [Op.equal, Op.maxDepth, edv]
  have hb : r = decide (x = y) := by
    rw [Bool.eq_iff_iff, hiff, decide_eq_true_iff]
    constructor
    · intro e
      exact edv_inj x y (edkeyed.inj hlx (e ▸ hly))
    · intro e
      rw [e, hly] at hlx
      exact (Option.some.inj hlx).symm
  unfold edv at *
  rw [run_eql_struct, hr', hb]
  rfl
theorem ed_guard : Try.prog.eqGuardType Try.prog.depth 37 = false := by kernel_rfl
/-! ### rows of edges -/
def eC (e : Ed) : List Value := [.int .i64 e.1.1, .int .i64 e.1.2.1, .int .i64 e.1.2.2, .int .i64 e.2.1, .int .i64 e.2.2.1, .int .i64 e.2.2.2]
def eCells (l : List Ed) : List Value := l.flatMap eC
theorem eCells_len (l : List Ed) : (eCells l).length = l.length * 6 := by
  induction l with
  | nil => rfl
  | cons x r ih =>
    have : eCells (x :: r) = eC x ++ eCells r := by simp [eCells]
    rw [this, List.length_append, ih]
    simp only [eC, List.length_cons, List.length_nil]
    omega
theorem eCells_append (l m : List Ed) : eCells (l ++ m) = eCells l ++ eCells m := by simp [eCells, List.flatMap_append]
theorem eCells_one (e : Ed) : eCells [e] = eC e := by simp [eCells]
theorem eCells_oneCell (l : List Ed) : ∀ u ∈ eCells l, u.oneCell' = true := by
  intro u hu
  simp only [eCells, eC, List.mem_flatMap, List.mem_cons, List.not_mem_nil, or_false] at hu
  obtain ⟨e, _, h | h | h | h | h | h⟩ := hu <;> subst h <;> rfl
theorem eCells_get (xs : List Ed) : ∀ (j : Nat) (h : j < xs.length) (c : Nat) (hc : c < 6), (eCells xs)[j * 6 + c]? = (eC xs[j])[c]? := by
  induction xs with
  | nil => intro j h; simp at h
  | cons x r ih =>
    intro j h c hc
    have e : eCells (x :: r) = eC x ++ eCells r := by simp [eCells]
    rw [e]
    cases j with
    | zero => rw [List.getElem?_append_left (by simp [eC]; omega)]; simp
    | succ j =>
      have h' := ih j (by simpa using h) c hc
      rw [List.getElem?_append_right (by simp [eC]; omega)]
      have : (j + 1) * 6 + c - (eC x).length = j * 6 + c := by simp only [eC, List.length_cons, List.length_nil]; omega
      rw [this, h']
      simp
/-- edges of the call's own -/
def OwnE (w : World) (base : Nat) (v : Value) (l : List Ed) : Prop := w.ownsRow base 37 6 v l.length (eCells l)
theorem OwnE.nil (w : World) (base : Nat) : OwnE w base (.slice none 0 0) [] := ⟨rfl, .inl ⟨rfl, rfl⟩⟩
theorem OwnE.kept {w w' : World} {base : Nat} {v : Value} {xs : List Ed} {S : Nat → Prop} (h : OwnE w base v xs) (hc : ChgP S w w') (hS : ∀ g, v.ownBlock = some g → ¬ S g) : OwnE w' base v xs :=
  ownsRow_kept h fun g hg hl => hc.block g hl (hS g hg)
theorem OwnE.same {w w' : World} {base : Nat} {v : Value} {xs : List Ed} (h : OwnE w base v xs) (hc : Chg [] w w') : OwnE w' base v xs := h.kept (hc.p (S := fun _ => False)) fun _ _ h => h
theorem OwnE.eds {w : World} {base : Nat} {v : Value} {xs : List Ed} (h : OwnE w base v xs) : EdP (fun g => base ≤ g ∧ g < w.heap.size ∧ v.ownBlock = some g) w v xs := by
  obtain ⟨a, cap, rfl⟩ := ownsRow_shape h
  rcases h.2 with ⟨hv, hx⟩ | ⟨g, cap', cur', hv, hge, hh, h3, h4, h5, h6⟩
  · have hk : xs = [] := List.eq_nil_of_length_eq_zero hx
    subst hk
    simp only [List.length_nil, Value.slice.injEq] at hv
    obtain ⟨rfl, _, rfl⟩ := hv
    exact SlR.nil _ _ _ _
  · cases hv
    refine ⟨_, cap, rfl, by omega, by omega, fun _ => ⟨g, 0, rfl, ⟨hge, lt_of_obj hh, rfl⟩, fun j hj => ?_⟩⟩
    have hc : ∀ c u, c < 6 → (eC xs[j])[c]? = some u → w.cell? ⟨g, j * 6 + c, none⟩ = some u := by
      intro c u hc6 hk
      rw [← eCells_get xs j hj c hc6] at hk
      have := World.ownsRow.cells h (g := g) rfl _ u hk
      rwa [Addr.add_lit, Nat.zero_add] at this
    unfold rdEd rdI3
    rw [Nat.zero_add]
    exact ⟨⟨hc 0 _ (by omega) rfl, hc 1 _ (by omega) rfl, hc 2 _ (by omega) rfl⟩, hc 3 _ (by omega) rfl, hc 4 _ (by omega) rfl, hc 5 _ (by omega) rfl⟩
theorem infoEd : (Try.prog.info? 37).map (fun i => (i.zero, i.size, i.bytes)) = some (some (.agg #[.int .i64 0, .int .i64 0, .int .i64 0, .int .i64 0, .int .i64 0, .int .i64 0]), 6, 48) := by kernel_rfl
theorem EdP.cellsAt {p : Nat → Prop} {w : World} {ad : Addr} {n cap : Nat} {l : List Ed} (h : EdP p w (.slice (some ad) n cap) l) (h0 : 0 < l.length) : ∀ j u, (eCells l)[j]? = some u → w.cell? (ad.add j) = some u := by
  obtain ⟨a', cap', hv, h1, h2, h3⟩ := h
  simp only [Value.slice.injEq] at hv
  obtain ⟨rfl, _, _⟩ := hv
  obtain ⟨g, off, he, _, hc⟩ := h3 h0
  cases he
  intro j u hj
  have hjl : j < l.length * 6 := by
    have := (List.getElem?_eq_some_iff.1 hj).1
    rwa [eCells_len] at this
  have hq : j / 6 < l.length := by omega
  obtain ⟨⟨c0, c1, c2⟩, c3, c4, c5⟩ := hc (j / 6) hq
  rw [Addr.add_lit]
  have e' : j = j / 6 * 6 + j % 6 := by omega
  have hm : j % 6 < 6 := Nat.mod_lt _ (by omega)
  rw [e', eCells_get l (j / 6) hq _ hm] at hj
  rw [e']
  have d : ∀ c, j % 6 = c → w.cell? ⟨g, off + (j / 6 * 6 + j % 6), none⟩ = w.cell? ⟨g, off + j / 6 * 6 + c, none⟩ := fun c hc' => by rw [hc', ← Nat.add_assoc]
  rcases (by omega : j % 6 = 0 ∨ j % 6 = 1 ∨ j % 6 = 2 ∨ j % 6 = 3 ∨ j % 6 = 4 ∨ j % 6 = 5) with e | e | e | e | e | e <;> rw [d _ e] <;> rw [e] at hj <;> cases hj
  · exact c0
  · exact c1
  · exact c2
  · exact c3
  · exact c4
  · exact c5
theorem run_append_eds (w : World) (ty : TypeId) (B : Nat) (p : Nat → Prop) (v sv : Value) (l m : List Ed) (hv : OwnE w B v l) (hs : EdP p w sv m) (hlen : l.length + m.length ≤ 100000) (hB : B ≤ w.heap.size) :
    ∃ v' w', (Builtin.append_ #[22, 22] ty #[v, sv]).run Try.prog w = .ok v' w' ∧ OwnE w' B v' (l ++ m) ∧ Chg v.ownBlock.toList w w' := by
  obtain ⟨i0, hi, hz0, hz1, hz2⟩ := info_parts infoEd
  obtain ⟨a, cap, rfl, _, _⟩ := SlR.shape hs
  by_cases h0 : m = []
  · subst h0
    refine ⟨v, w, ?_, by simpa using hv, Chg.refl _ _⟩
    rcases hv.2 with ⟨rfl, h1⟩ | ⟨g, cap', cur, rfl, _, _, hnc, _⟩
    · cases a <;> simp [Builtin.append_, run_underlying Try.underlying22, sizeOf, typeInfo, hi, Builtin.lenOf, Builtin.firstCells, h1, loadCells, loadCellsFrom, Result.andThen]
    · cases a <;> simp [Builtin.append_, run_underlying Try.underlying22, sizeOf, typeInfo, hi, Builtin.lenOf, Builtin.firstCells, hnc, storeCells, loadCells, loadCellsFrom, Result.andThen]
  · have hpos : 0 < m.length := List.length_pos_iff.2 h0
    obtain ⟨ad, rfl⟩ : ∃ ad, a = some ad := by
      obtain ⟨a', cap', hv', _, _, h3⟩ := hs
      simp only [Value.slice.injEq] at hv'
      obtain ⟨rfl, _, _⟩ := hv'
      obtain ⟨g, off, rfl, _⟩ := h3 hpos
      exact ⟨_, rfl⟩
    obtain ⟨v', w', hr, h2, h3, _, h5⟩ := run_append_own_at (P := Try.prog) w B 22 ty 37 i0 (.agg #[.int .i64 0, .int .i64 0, .int .i64 0, .int .i64 0, .int .i64 0, .int .i64 0]) 6 48 Try.underlying22 hi hz0 hz1 hz2 rfl (by decide) v l.length (eCells l) hv ad m.length cap (eCells m) (eCells_len m) (EdP.cellsAt hs hpos) (eCells_oneCell m) (by unfold maxLen; omega) (by omega) hB
    refine ⟨v', w', hr, ?_, (Chg.refl _ w).grown h3 (by intro k hk; left; simp [hk])⟩
    unfold OwnE
    rw [eCells_append, List.length_append]
    exact h2
theorem ed1_at {w : World} {n : Nat} {e : Ed} (h : w.heap[n]? = some (.cells #[.int .i64 e.1.1, .int .i64 e.1.2.1, .int .i64 e.1.2.2, .int .i64 e.2.1, .int .i64 e.2.2.1, .int .i64 e.2.2.2] 37 (0, 0))) : EdP (fun g => g = n) w (.slice (some ⟨n, 0, none⟩) 1 1) [e] := by
  refine ⟨_, 1, rfl, Nat.le_refl _, by simp [maxLen], fun _ => ⟨n, 0, rfl, rfl, fun j hj => ?_⟩⟩
  match j, hj with
  | 0, _ => exact ⟨⟨cell_of_heap h rfl, cell_of_heap h rfl, cell_of_heap h rfl⟩, cell_of_heap h rfl, cell_of_heap h rfl, cell_of_heap h rfl⟩
theorem edCc {W : World} {n : Nat} {f0 f1 f2 t0 t1 t2 : Int} (h : W.heap[n]? = some (.cells #[.int .i64 f0, .int .i64 f1, .int .i64 f2, .int .i64 t0, .int .i64 t1, .int .i64 t2] 37 (0, 0))) :
    W.cell? ⟨n, 0, none⟩ = some (.int .i64 f0) ∧ W.cell? ⟨n, 1, none⟩ = some (.int .i64 f1) ∧ W.cell? ⟨n, 2, none⟩ = some (.int .i64 f2) ∧ W.cell? ⟨n, 3, none⟩ = some (.int .i64 t0) ∧ W.cell? ⟨n, 4, none⟩ = some (.int .i64 t1) ∧ W.cell? ⟨n, 5, none⟩ = some (.int .i64 t2) :=
  ⟨cell_of_heap h rfl, cell_of_heap h rfl, cell_of_heap h rfl, cell_of_heap h rfl, cell_of_heap h rfl, cell_of_heap h rfl⟩
def isEd (k x : Ed) : Bool := decide (k = x)
set_option maxHeartbeats 1000000 in
theorem edIndex_any (p : Nat → Prop) (w : World) (v : Value) (E : List Ed) (k : Ed) (h : EdP p w v E) (hok : EdOk E) (hk : QKok k.1 ∧ QKok k.2) :
    Calls Try.prog 32 #[v, edv k] w fun e w' => e = .returned (.int .i64 (fidx (isEd k) E)) ∧ Chg [] w w' := by
  obtain ⟨a, cap, rfl, hm, hc⟩ := SlR.shape h
  have H := Lib.hid h
  have Hok := Lib.hid (And.intro hok hk)
  clear h hok hk
  unfold maxLen at hm
  obtain ⟨⟨k1, k2, k3⟩, k4, k5, k6⟩ := k
  unfold edv
  simp only
  have hgd := ed_guard
  obtain ⟨w1, hw1⟩ : ∃ q, q = w.alloc (.cells #[.int .i64 k1, .int .i64 k2, .int .i64 k3, .int .i64 k4, .int .i64 k5, .int .i64 k6] 37) := ⟨_, rfl⟩
  obtain ⟨nb, hnb⟩ : ∃ n, n = w.heap.size := ⟨_, rfl⟩
  have hc1 : Chg [] w w1 := by rw [hw1]; exact (Chg.refl [] w).alloc _
  have hb1 : w1.heap[nb]? = some (.cells #[.int .i64 k1, .int .i64 k2, .int .i64 k3, .int .i64 k4, .int .i64 k5, .int .i64 k6] 37 (0, 0)) := by rw [hw1, hnb]; exact heap_at _ _ _ rfl
  have HW := Lib.hid (And.intro hw1 hnb)
  have H1 := Lib.hid (And.intro hc1 hb1)
  clear hw1 hnb hc1 hb1
  go_enter Try.func32, Try.ntmps32
  go_wp2
  rw [← HW.out.1, ← HW.out.2]
  go_loopw [8] (fun i wr => ∃ n : Nat, n ≤ E.length ∧ i = .int .i64 (n : Nat) ∧ Hid (∀ x ∈ E.take n, isEd ((k1, k2, k3), k4, k5, k6) x = false) ∧ Hid (Chg [] w1 wr)) (fun i _ => E.length - (intOf i).toNat)
  case atStart => exact ⟨0, by omega, rfl, Lib.hid (by simp), Lib.hid (Chg.refl _ _)⟩
  case round =>
    obtain ⟨n, hn, rfl, Hnot, Hcw⟩ := hrel
    obtain ⟨m0, m1, m2, m3, m4, m5⟩ := edCc ((Hcw.out.block _ (lt_of_obj H1.out.2) (by simp)).trans H1.out.2)
    have lm := lt_of_cell m0
    by_cases hlt : n < E.length
    · obtain ⟨g, off, rfl, _, q0, q1, q2, q3, q4, q5⟩ := (H.out.same (H1.out.1.trans Hcw.out)).cells n hlt
      have hxo := Hok.out.1 _ (getD_memEd hlt)
      obtain ⟨x, hx⟩ : ∃ x, E.getD n e0 = x := ⟨_, rfl⟩
      rw [hx] at q0 q1 q2 q3 q4 q5 hxo
      have Hx := Lib.hid hx
      obtain ⟨⟨x1, x2, x3⟩, x4, x5, x6⟩ := x
      simp only at q0 q1 q2 q3 q4 q5
      have lg := lt_of_cell q0
      have hn1 : (n : Int) < E.length := by omega
      have hn0 : (0 : Int) ≤ (n : Int) := by omega
      have hq := fun w => ed_eqlE (x := ((k1, k2, k3), k4, k5, k6)) (y := ((x1, x2, x3), x4, x5, x6)) Hok.out.2 hxo w
      unfold edv at hq
      simp only at hq
      clear hx hxo
      by_cases he : ((k1, k2, k3), k4, k5, k6) = ((x1, x2, x3), x4, x5, x6)
      · rw [decide_eq_true he] at hq
        have hf := fidx_some (isEd ((k1, k2, k3), k4, k5, k6)) E n hlt e0 Hnot.out (by rw [Hx.out]; exact decide_eq_true he)
        have Hf := Lib.hid hf
        clear hf he
        go_wp2
        go_region
        all_goals
          go_wp2
          go_ret
          exact ⟨by rw [Hf.out]; rfl, H1.out.1.trans Hcw.out.drew⟩
      · rw [decide_eq_false he] at hq
        have Hne := Lib.hid (show isEd ((k1, k2, k3), k4, k5, k6) ((x1, x2, x3), x4, x5, x6) = false from decide_eq_false he)
        clear he
        go_wp2
        go_region
        all_goals
          go_wp2
          refine ⟨⟨n + 1, by omega, by go_num, Lib.hid (fun y hy => ?_), Lib.hid Hcw.out.drew⟩, by simp [intOf]; omega⟩
          rw [fold_take_snoc E n hlt e0, List.mem_append, List.mem_singleton] at hy
          rcases hy with hy | rfl
          · exact Hnot.out y hy
          · rw [Hx.out]; exact Hne.out
    · have hn1 : ¬ ((n : Int) < E.length) := by omega
      have hf := fidx_none (isEd ((k1, k2, k3), k4, k5, k6)) E (by have := Hnot.out; rw [List.take_of_length_le (by omega)] at this; exact this)
      have Hf := Lib.hid hf
      clear hf
      go_wp2
      go_ret
      exact ⟨by rw [Hf.out]; rfl, H1.out.1.trans Hcw.out⟩
theorem edContains_any (p : Nat → Prop) (w : World) (v : Value) (E : List Ed) (k : Ed) (h : EdP p w v E) (hok : EdOk E) (hk : QKok k.1 ∧ QKok k.2) :
    Calls Try.prog 25 #[v, edv k] w fun e w' => e = .returned (.bool (decide (k ∈ E))) ∧ Chg [] w w' := by
  have hd := fidx_any (isEd k) E
  have ha : E.any (isEd k) = decide (k ∈ E) := by
    rw [Bool.eq_iff_iff]
    simp [isEd]
  rw [ha] at hd
  have Hd := Lib.hid hd
  have hc0 : Chg [] w (w.alloc (.cells #[.int .i64 k.1.1, .int .i64 k.1.2.1, .int .i64 k.1.2.2, .int .i64 k.2.1, .int .i64 k.2.2.1, .int .i64 k.2.2.2] 37)) := (Chg.refl [] w).alloc _
  have hix := edIndex_any p _ v E k (h.same hc0) hok hk
  have Hix := Lib.hid hix
  have Hc0 := Lib.hid hc0
  clear hd ha h hok hk hix hc0
  obtain ⟨⟨k1, k2, k3⟩, k4, k5, k6⟩ := k
  unfold edv at *
  simp only at *
  go_enter Try.func25, Try.ntmps25
  go_wp2_with fail
  refine (Hix.out).mono ?_
  rintro e w1 ⟨rfl, c1⟩
  generalize fidx (isEd ((k1, k2, k3), k4, k5, k6)) E = z at Hd
  by_cases hz : 0 ≤ z
  · have hzd : decide (0 ≤ z) = true := by simpa using hz
    have Hany := Lib.hid (show decide (((k1, k2, k3), k4, k5, k6) ∈ E) = true by rw [← Hd.out]; exact hzd)
    go_wp2
    go_ret
    exact ⟨by rw [Hany.out]; rfl, Hc0.out.trans c1⟩
  · have hzd : decide (0 ≤ z) = false := by simpa using hz
    have Hany := Lib.hid (show decide (((k1, k2, k3), k4, k5, k6) ∈ E) = false by rw [← Hd.out]; exact hzd)
    go_wp2
    go_ret
    exact ⟨by rw [Hany.out]; rfl, Hc0.out.trans c1⟩
end Go.Proofs.Ytenjjiilcdgimaa
