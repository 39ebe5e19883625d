/- progress.Split: rows of chunks, what a round of the loop keeps. -/
import Derived.Test.YtlhngcpodkiafaaPrgA
import Derived.Test.YtlhngcpodkiafaaIntsC
import Derived.Test.YtlhngcpodkiafaaRound
import Derived.Test.YtlhngcpodkiafaaMem
import Derived.Deep.AppendLies
import Derived.Deep.OwnRows
namespace Go.Proofs.Ytlhngcpodkiafaa
open Go.RowKit Go.Shelf
set_option linter.unusedVariables false
set_option linter.unusedSimpArgs false
attribute [local go_sem] Oper.semAt_some
theorem Try.infoChunk : (Try.prog.info? 39).map (fun i => (i.zero, i.size, i.bytes)) = some (some (.agg #[.int .i64 0, .int .i64 0, .bool false, .slice none 0 0]), 4, 48) := by kernel_rfl
/-- the ints of a chunk -/
def chV {n : Nat} (zs : List Int) (x : Ck n) : List Int := (List.range x.1.2).map fun j => zs.getD (x.1.1 + j) 0
theorem chV_len {n : Nat} (zs : List Int) (x : Ck n) : (chV zs x).length = x.1.2 := by simp [chV]
theorem ints_sub {w : World} {g off n cap : Nat} {zs : List Int} (h : IntsC w (.slice (some ⟨g, off, none⟩) n cap) zs) (hn : zs.length = n) (x : Ck n) : IntsC w (.slice (some ⟨g, off + x.1.1, none⟩) x.1.2 x.1.2) (chV zs x) := by
  have hx := x.2
  have hc : n ≤ maxLen := by obtain ⟨a, c, h0, h1, h2, _⟩ := h; cases h0; omega
  exact h.sub hn x.1.1 x.1.2 hx x.1.2 (Nat.le_refl _) (by omega)
/-- a row of chunks -/
def flatC (tok : Int) (us : List Value) : List Value := us.zipIdx.flatMap fun p => [.int .i64 tok, .int .i64 (p.2 : Nat), .bool false, p.1]
theorem flatC_append (tok : Int) (us : List Value) (u : Value) : flatC tok (us ++ [u]) = flatC tok us ++ [.int .i64 tok, .int .i64 (us.length : Nat), .bool false, u] := by
  simp [flatC, List.zipIdx_append]
theorem flatC_len (tok : Int) (us : List Value) : (flatC tok us).length = us.length * 4 := by
  have key : ∀ (us : List Value) (k : Nat), ((us.zipIdx k).flatMap fun p => [Value.int .i64 tok, .int .i64 (p.2 : Nat), .bool false, p.1]).length = us.length * 4 := by
    intro us
    induction us with
    | nil => intro k; rfl
    | cons u r ih =>
      intro k
      rw [List.zipIdx_cons, List.flatMap_cons, List.length_append, ih]
      simp only [List.length_cons, List.length_nil]
      omega
  exact key us 0
theorem flatC_get (tok : Int) (us : List Value) (m : Nat) (h : m < us.length) (d : Value) : (flatC tok us)[m * 4]? = some (.int .i64 tok) ∧ (flatC tok us)[m * 4 + 1]? = some (.int .i64 (m : Nat)) ∧ (flatC tok us)[m * 4 + 2]? = some (.bool false) ∧ (flatC tok us)[m * 4 + 3]? = some (us.getD m d) := by
  have key : ∀ (us : List Value) (k m : Nat), m < us.length → ∀ L : List Value, L = ((us.zipIdx k).flatMap fun p => [Value.int .i64 tok, .int .i64 (p.2 : Nat), .bool false, p.1]) → L[m * 4]? = some (.int .i64 tok) ∧ L[m * 4 + 1]? = some (.int .i64 ((k + m : Nat) : Int)) ∧ L[m * 4 + 2]? = some (.bool false) ∧ L[m * 4 + 3]? = some (us.getD m d) := by
    intro us
    induction us with
    | nil => intro k m h; simp at h
    | cons u r ih =>
      intro k m h L hL
      rw [List.zipIdx_cons, List.flatMap_cons] at hL
      subst hL
      cases m with
      | zero => exact ⟨rfl, rfl, rfl, rfl⟩
      | succ m =>
        obtain ⟨h0, h1, h2, h3⟩ := ih (k + 1) m (by simpa using h) _ rfl
        have e : (m + 1) * 4 = m * 4 + 1 + 1 + 1 + 1 := by omega
        have e1 : m * 4 + 1 + 1 + 1 + 1 + 1 = m * 4 + 1 + 1 + 1 + 1 + 1 := rfl
        rw [e, show k + (m + 1) = k + 1 + m from by omega]
        exact ⟨h0, h1, h2, h3⟩
  have := key us 0 m h _ rfl
  rw [Nat.zero_add] at this
  exact this
/-- between two rounds: what has come stands in the row -/
def SpI (n cB B tB : Nat) (tok : Int) (zs : List Int) (w : World) (pre : List (Ck n)) (W : World) : Prop :=
  (∃ v us, Boxed W cB 29 v ∧ W.ownsRow B 39 4 v us.length (flatC tok us) ∧ us.length = pre.length ∧ ∀ q x, pre[q]? = some x → Ints W (us.getD q (.bool false)) (chV zs x)) ∧ Boxed W tB 3 (.int .i64 tok) ∧ B ≤ W.heap.size ∧ Chg [] w W
theorem SpI.own (n cB B tB : Nat) (tok : Int) (zs : List Int) (w : World) (D : Nat) (hD : w.heap.size ≤ D) : OwnFrom D (SpI n cB B tB tok zs w) := by
  rintro pre A A' row ⟨⟨v, us, h1, h2, h3, h4⟩, h5, h7, h6⟩ hg hr
  have hne : ∀ {b : Nat} {t : TypeId} {x : Value}, Boxed A b t x → some b ≠ row := fun hb e => by
    obtain ⟨_, o, ho, hc⟩ := hr _ e.symm
    rw [show A.heap[_]? = _ from hb] at ho; cases ho; cases hc
  have hch : Chg row.toList A A' := (Chg.refl row.toList A).grown hg (fun k e => Or.inl (by simp [e]))
  refine ⟨⟨v, us, h1.kept hg (hne h1), h2.kept hg ?_, h3, fun q x hq => (h4 q x hq).kept hch ?_⟩, h5.kept hg (hne h5), Nat.le_trans h7 hg.size, h6.grown hg (fun k e => Or.inr (by have := (hr k e).1; omega))⟩
  · rcases h2.2 with ⟨rfl, _⟩ | ⟨g, cap, cur, rfl, _, hgb, _⟩
    · exact .inl rfl
    · refine .inr fun e' => ?_
      obtain ⟨_, o, ho, hc⟩ := hr g (by simpa [Value.ownBlock] using e'.symm)
      rw [hgb] at ho; cases ho; cases hc
  · intro k hk c fr hkc
    obtain ⟨_, o, ho, hc⟩ := hr k (by simpa using hk)
    rw [hkc] at ho; cases ho; cases hc
theorem SpI.step {n B0 : Nat} {tok : Int} {zs : List Int} {w W w3 w4 : World} {pre : List (Ck n)} {x : Ck n} {us : List Value} {av a3 : Option Addr} {cv cp3 gg cap4 m : Nat} {o : Obj} (hm : m = w.heap.size)
    (hb1 : Boxed W (m + 1) 29 (.slice av us.length cv)) (hrow : W.ownsRow (m + 4) 39 4 (.slice av us.length cv) us.length (flatC tok us)) (hul : us.length = pre.length)
    (hus : ∀ q x, pre[q]? = some x → Ints W (us.getD q (.bool false)) (chV zs x)) (hWB : m + 4 ≤ W.heap.size) (hch : Chg [] w W)
    (hB3 : Boxed w3 (m + 1) 29 (.slice av us.length cv)) (hT3 : Boxed w3 m 3 (.int .i64 tok)) (hi3 : Ints w3 (.slice a3 x.1.2 cp3) (chV zs x)) (hc3 : Chg [] W.drew w3)
    (hown : w4.ownsRow (m + 4) 39 4 (.slice (some ⟨gg, 0, none⟩) (us.length + 1) cap4) (us.length + 1) (flatC tok us ++ [.int .i64 tok, .int .i64 (us.length : Nat), .bool false, .slice a3 x.1.2 cp3]))
    (hgr : (w3.alloc o).grownBy w4 (Value.slice av us.length cv).ownBlock) :
    KeepsFrom B0 W (w4.setCell ⟨m + 1, 0, none⟩ (.slice (some ⟨gg, 0, none⟩) (us.length + 1) cap4)) ∧ Keep2 (m + 2) (m + 3) W (w4.setCell ⟨m + 1, 0, none⟩ (.slice (some ⟨gg, 0, none⟩) (us.length + 1) cap4)) ∧
      SpI n (m + 1) (m + 4) m tok zs w (pre ++ [x]) (w4.setCell ⟨m + 1, 0, none⟩ (.slice (some ⟨gg, 0, none⟩) (us.length + 1) cap4)) := by
  have hlow : ∀ g ∈ (Value.slice av us.length cv).ownBlock.toList, m + 4 ≤ g := fun g hg => (ownsRow_ge hrow (by simpa using hg)).1
  have h3 : Chg ((m + 1) :: (Value.slice av us.length cv).ownBlock.toList) w3 (w4.setCell ⟨m + 1, 0, none⟩ (.slice (some ⟨gg, 0, none⟩) (us.length + 1) cap4)) :=
    ((((Chg.refl _ w3).alloc o).grown hgr (fun k e => Or.inl (by simp [e])))).setCell (Or.inl (by simp)) _
  have hW3 : Chg [] W w3 := ((Chg.refl [] W).drew).new hc3
  have hc : Chg ((m + 1) :: (Value.slice av us.length cv).ownBlock.toList) W (w4.setCell ⟨m + 1, 0, none⟩ (.slice (some ⟨gg, 0, none⟩) (us.length + 1) cap4)) := hW3.nil.trans h3
  have hne : ∀ k ∈ (m + 1) :: (Value.slice av us.length cv).ownBlock.toList, NotE 3 W k := by
    intro k hk c fr hkc
    rcases List.mem_cons.1 hk with rfl | hk
    · rw [show W.heap[m + 1]? = _ from hb1] at hkc; simp at hkc
    · rcases hrow.2 with ⟨hv, _⟩ | ⟨g', cap', cur', hv, _, hgb, _⟩
      · rw [hv] at hk; simp [Value.ownBlock] at hk
      · rw [hv] at hk
        obtain rfl : g' = k := by simpa [Value.ownBlock, eq_comm] using hk
        rw [hgb] at hkc; simp at hkc
  have hne3 : ∀ k ∈ (m + 1) :: (Value.slice av us.length cv).ownBlock.toList, NotE 3 w3 k := fun k hk => (hne k hk).of_chg hW3 (by
    rcases List.mem_cons.1 hk with rfl | hk
    · exact hb1.lt
    · exact (ownsRow_ge hrow (by simpa using hk)).2) (by simp)
  have hT4 : Boxed (w4.setCell ⟨m + 1, 0, none⟩ (.slice (some ⟨gg, 0, none⟩) (us.length + 1) cap4)) m 3 (.int .i64 tok) := (h3.block m hT3.lt (fun hm' => by
    rcases List.mem_cons.1 hm' with h | h
    · omega
    · have := hlow _ h; omega)).trans hT3
  have hB4 : Boxed w4 (m + 1) 29 (.slice av us.length cv) := (hB3.alloc _).kept hgr (fun e => by have := hlow (m + 1) (by simp [← e]); omega)
  refine ⟨⟨hc.size, fun k o _ hk ho => ?_⟩, ⟨hc.block _ (by omega) (fun h => ?_), hc.block _ (by omega) (fun h => ?_)⟩, ⟨_, us ++ [.slice a3 x.1.2 cp3], hB4.set _, ?_, by simp [hul], fun q y hq => ?_⟩, hT4, by have := hc.size; omega, hch.comp hc (fun k hk => Or.inr ?_)⟩
  · by_cases hkT : k ∈ (m + 1) :: (Value.slice av us.length cv).ownBlock.toList
    · rcases List.mem_cons.1 hkT with rfl | hkr
      · rw [show W.heap[m + 1]? = _ from hb1] at hk; cases hk; cases ho
      · rcases hrow.2 with ⟨hv, _⟩ | ⟨g', cap', cur', hv, _, hgb, _⟩
        · rw [hv] at hkr; simp [Value.ownBlock] at hkr
        · rw [hv] at hkr
          obtain rfl : g' = k := by simpa [Value.ownBlock, eq_comm] using hkr
          rw [hgb] at hk; cases hk; cases ho
    · exact (hc.block k (lt_of_obj hk) hkT).trans hk
  · rcases List.mem_cons.1 h with h | h
    · omega
    · have := hlow _ h; omega
  · rcases List.mem_cons.1 h with h | h
    · omega
    · have := hlow _ h; omega
  · rw [flatC_append, List.length_append]
    exact ownsRow_kept hown fun g' hg' _ => heap_setCell_ne _ _ _ _ (by have := (ownsRow_ge hown hg').1; show g' ≠ m + 1; omega)
  · by_cases hql : q < pre.length
    · rw [List.getElem?_append_left hql] at hq
      have := (hus q y hq).kept hc hne
      simpa [List.getD_eq_getElem?_getD, List.getElem?_append_left (show q < us.length by omega)] using this
    · obtain ⟨hlt, _⟩ := List.getElem?_eq_some_iff.1 hq
      rw [List.length_append, List.length_singleton] at hlt
      obtain rfl : q = pre.length := by omega
      simp only [List.getElem?_append_right (Nat.le_refl _), Nat.sub_self, List.getElem?_cons_zero, Option.some.injEq] at hq
      subst hq
      have := hi3.kept h3 hne3
      simpa [List.getD_eq_getElem?_getD, ← hul] using this
  · rcases List.mem_cons.1 hk with rfl | hk
    · omega
    · have := hlow _ hk; omega
/-- a row of chunks of which the last is marked -/
def flatL (tok : Int) (us : List Value) : List Value := (flatC tok us).set ((us.length - 1) * 4 + 2) (.bool true)
theorem flatL_get (tok : Int) (us : List Value) (m : Nat) (h : m < us.length) (d : Value) : (flatL tok us)[m * 4]? = some (.int .i64 tok) ∧ (flatL tok us)[m * 4 + 1]? = some (.int .i64 (m : Nat)) ∧ (flatL tok us)[m * 4 + 2]? = some (.bool (decide (m + 1 = us.length))) ∧ (flatL tok us)[m * 4 + 3]? = some (us.getD m d) := by
  obtain ⟨h0, h1, h2, h3⟩ := flatC_get tok us m h d
  unfold flatL
  have hl := flatC_len tok us
  refine ⟨by rw [List.getElem?_set_ne (by omega)]; exact h0, by rw [List.getElem?_set_ne (by omega)]; exact h1, ?_, by rw [List.getElem?_set_ne (by omega)]; exact h3⟩
  by_cases e : m + 1 = us.length
  · rw [show (us.length - 1) * 4 + 2 = m * 4 + 2 from by omega, List.getElem?_set_self (by omega)]
    simp [e]
  · rw [List.getElem?_set_ne (by omega), h2]
    simp [e]
def SplitPost (tok : Int) (s : Nat) (zs : List Int) (w : World) (e : Ending) (w' : World) : Prop :=
  ∃ k gr cap us, e = .returned (.tuple #[.slice (some ⟨gr, 0, none⟩) k cap, .int .i64 0]) ∧ us.length = k ∧ 1 ≤ k ∧ zs.length ≤ k * s ∧ k * s < zs.length + s ∧
    w'.ownsRow w.heap.size 39 4 (.slice (some ⟨gr, 0, none⟩) k cap) k (flatL tok us) ∧ (∀ q, q < k → Ints w' (us.getD q (.bool false)) (chV zs (ckAt zs.length s q))) ∧ Chg [] w w'
theorem row_set {w : World} {base g n cap sz i : Nat} {e : TypeId} {xs : List Value} {u : Value} (h : w.ownsRow base e sz (.slice (some ⟨g, 0, none⟩) n cap) n xs) (hi : i < n * sz) : (w.setCell ⟨g, i, none⟩ u).ownsRow base e sz (.slice (some ⟨g, 0, none⟩) n cap) n (xs.set i u) := by
  refine ⟨by rw [List.length_set]; exact h.1, ?_⟩
  rcases h.2 with ⟨h0, _⟩ | ⟨g', cap', cur, hv, h1, h2, h3, h4, h5, h6⟩
  · cases h0
  · cases hv
    refine .inr ⟨g, cap, cur.setIfInBounds i u, rfl, h1, heap_setCell_same h2 u, h3, h4, by simpa using h5, ?_⟩
    rw [Array.toList_setIfInBounds, List.take_set, h6]
theorem split_end {n s m gr cp D B : Nat} {tok : Int} {zs : List Int} {us : List Value} {w W : World} (hn : zs.length = n) (hB : w.heap.size ≤ B) (hD : w.heap.size ≤ D) (hk1 : n ≤ (m + 1) * s) (hk2 : (m + 1) * s < n + s) (hul : us.length = m + 1)
    (hrow : W.ownsRow B 39 4 (.slice (some ⟨gr, 0, none⟩) (m + 1) cp) (m + 1) (flatC tok us)) (hus : ∀ q x, (chU n s (m + 1))[q]? = some x → Ints W (us.getD q (.bool false)) (chV zs x)) (hch : Chg [] w W)
    (hK : (W.setCell ⟨gr, m * 4 + 2, none⟩ (.bool true)).heap[D]? = some (.deferred (some []))) :
    SplitPost tok s zs w (.returned (.tuple #[.slice (some ⟨gr, 0, none⟩) (m + 1) cp, .int .i64 0])) ((W.setCell ⟨gr, m * 4 + 2, none⟩ (.bool true)).putObj D (.deferred none)) := by
  subst hn
  have hgr := ownsRow_ge hrow (g := gr) rfl
  have hr2 := row_set (u := .bool true) hrow (i := m * 4 + 2) (by omega)
  have hg2 := grownBy_putObj' (W.setCell ⟨gr, m * 4 + 2, none⟩ (.bool true)) D (.deferred none)
  have c1 : Chg [gr] W (W.setCell ⟨gr, m * 4 + 2, none⟩ (.bool true)) := (Chg.refl _ _).setCell (Or.inl (by simp)) _
  have c2 : Chg [gr, D] W ((W.setCell ⟨gr, m * 4 + 2, none⟩ (.bool true)).putObj D (.deferred none)) := (c1.mono (by simp)).grown hg2 (fun k e => by cases e; exact Or.inl (by simp))
  refine ⟨m + 1, gr, cp, us, rfl, hul, by omega, hk1, hk2, ?_, fun q hq => ?_, hch.comp c2 (fun k hk => Or.inr ?_)⟩
  · have e : flatL tok us = (flatC tok us).set (m * 4 + 2) (.bool true) := by unfold flatL; rw [hul, Nat.add_sub_cancel]
    rw [e]
    exact ownsRow_base (ownsRow_putObj hr2 _ hK rfl) hB
  · refine (hus q (ckAt zs.length s q) (by simp [chU, hq])).kept c2 ?_
    intro k hk c fr hkc
    rcases List.mem_cons.1 hk with rfl | hk
    · rcases hrow.2 with ⟨h0, _⟩ | ⟨g', cap', cur, hv, h1, h2, _⟩
      · cases h0
      · cases hv; rw [h2] at hkc; simp at hkc
    · obtain rfl : k = D := by simpa using hk
      by_cases e : k = gr
      · subst e
        rcases hrow.2 with ⟨h0, _⟩ | ⟨g', cap', cur, hv, h1, h2, _⟩
        · cases h0
        · cases hv; rw [h2] at hkc; simp at hkc
      · rw [heap_setCell_ne _ _ _ _ (by show k ≠ gr; exact e), hkc] at hK
        cases hK
  · rcases List.mem_cons.1 hk with rfl | hk
    · omega
    · obtain rfl : k = D := by simpa using hk
      omega
end Go.Proofs.Ytlhngcpodkiafaa
