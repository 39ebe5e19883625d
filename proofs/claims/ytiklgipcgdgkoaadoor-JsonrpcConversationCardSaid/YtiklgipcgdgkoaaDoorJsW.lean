/- JsonrpcConversation: slices of messages at any place, appended to; the law's memory. -/
import Derived.Test.YtiklgipcgdgkoaaDoorJsI
import Derived.Deep.Upon
namespace Go.Proofs.YtiklgipcgdgkoaaDoor.Jv
open Go.RowKit Go.ChangeMaps Go.MapKept
set_option linter.unusedVariables false
set_option linter.unusedSimpArgs false
theorem heap_setCells {w : World} {g : Nat} {T : TypeId} {fr : Nat × Nat} : ∀ (vs : List Value) (o : Nat) (cur : Array Value) (w : World), w.heap[g]? = some (.cells cur T fr) → o + vs.length ≤ cur.size →
    ∃ cur', (w.setCells g o vs).heap[g]? = some (.cells cur' T fr) ∧ cur'.size = cur.size ∧ (∀ j, j < o → cur'[j]? = cur[j]?) ∧ ∀ j, j < vs.length → cur'[o + j]? = vs[j]?
  | [], o, cur, w, h, _ => ⟨cur, h, rfl, fun _ _ => rfl, fun j hj => absurd hj (by simp)⟩
  | v :: vs, o, cur, w, h, hl => by
    rw [List.length_cons] at hl
    have h1 := heap_setCell_same (i := o) h v
    obtain ⟨cur', h2, h3, h4, h5⟩ := heap_setCells (w := w) vs (o + 1) _ _ h1 (by rw [Array.size_setIfInBounds]; omega)
    refine ⟨cur', h2, by rw [h3, Array.size_setIfInBounds], fun j hj => ?_, fun j hj => ?_⟩
    · rw [h4 j (by omega), Array.getElem?_setIfInBounds_ne (by omega)]
    · cases j with
      | zero =>
        rw [Nat.add_zero, h4 o (by omega), Array.getElem?_setIfInBounds_self_of_lt (by omega)]
        rfl
      | succ j =>
        rw [List.length_cons] at hj
        rw [show o + (j + 1) = o + 1 + j by omega, h5 j (by omega)]
        rfl
theorem chg_setCells (g : Nat) : ∀ (vs : List Value) (o : Nat) (w : World), Chg [g] w (w.setCells g o vs)
  | [], o, w => Chg.refl _ _
  | v :: vs, o, w => ((Chg.refl [g] w).setCell (p := ⟨g, o, none⟩) (Or.inl (by simp)) v).trans (chg_setCells g vs (o + 1) _)
/-- a slice of messages -/
structure MsP (w : World) (a : Option Addr) (n c : Nat) (ms : List Qm) : Prop where
  len : n = ms.length
  le : n ≤ c
  cap : c ≤ maxLen
  row : (a = none ∧ c = 0) ∨ ∃ g off cur, a = some ⟨g, off, none⟩ ∧ w.heap[g]? = some (.cells cur 27 (0, 0)) ∧ off + c * 9 ≤ cur.size ∧ ∀ j u, (ms.flatMap qc)[j]? = some u → cur[off + j]? = some u
/-- its block -/
def MB (a : Option Addr) (g : Nat) : Prop := ∃ off, a = some ⟨g, off, none⟩
theorem MB.no {g : Nat} : ¬ MB none g := fun ⟨_, h⟩ => by cases h
theorem MB.eq {g g' off : Nat} (h : MB (some ⟨g, off, none⟩) g') : g' = g := by obtain ⟨_, h⟩ := h; cases h; rfl
theorem MB.self (g off : Nat) : MB (some ⟨g, off, none⟩) g := ⟨off, rfl⟩
theorem MsP.nil (w : World) : MsP w none 0 0 [] := ⟨rfl, by simp, by simp [maxLen], Or.inl ⟨rfl, rfl⟩⟩
section
variable {w w' : World} {a : Option Addr} {n c : Nat} {ms : List Qm}
theorem MsP.kept {S : Nat → Prop} (h : MsP w a n c ms) (hc : ChgP S w w') (hS : ∀ g, MB a g → ¬ S g) : MsP w' a n c ms := by
  refine ⟨h.len, h.le, h.cap, h.row.imp id ?_⟩
  rintro ⟨g, off, cur, rfl, hb, h1, h2⟩
  exact ⟨g, off, cur, rfl, (hc.block g (lt_of_obj hb) (hS g (MB.self g off))).trans hb, h1, h2⟩
theorem MsP.new (h : MsP w a n c ms) (hc : Chg [] w w') : MsP w' a n c ms := h.kept (S := fun _ => False) hc.p (fun _ _ h => h)
theorem MsP.lt (h : MsP w a n c ms) {g : Nat} (hg : MB a g) : g < w.heap.size := by
  rcases h.row with ⟨rfl, _⟩ | ⟨g', off, cur, rfl, hb, _⟩
  · exact absurd hg MB.no
  · rw [hg.eq]; exact lt_of_obj hb
theorem MsP.own (h : ∃ base, w.ownsRow base 27 9 (.slice a n c) n (ms.flatMap qc)) (hn : n = ms.length) : MsP w a n c ms := by
  obtain ⟨base, h1, h2⟩ := h
  rcases h2 with ⟨hv, hx⟩ | ⟨g, cap', cur, hv, hge, hh, hnc, hcm, hsz, ht⟩
  · cases hv
    exact ⟨hn, by simp, by simp [maxLen], Or.inl ⟨rfl, rfl⟩⟩
  · cases hv
    refine ⟨hn, hnc, hcm, Or.inr ⟨g, 0, cur, rfl, hh, by omega, fun j u hj => ?_⟩⟩
    have hjl : j < (ms.flatMap qc).length := (List.getElem?_eq_some_iff.1 hj).1
    rw [Nat.zero_add, ← Array.getElem?_toList, ← hj, ← ht, List.getElem?_take_of_lt (by omega)]
/-- message i -/
theorem MsP.at (h : MsP w a n c ms) {i : Nat} (hi : i < ms.length) : ∃ g off, a = some ⟨g, off, none⟩ ∧ g < w.heap.size ∧ (∀ k, k < 9 → w.cell? ⟨g, off + i * 9 + k, none⟩ = (qc ms[i])[k]?) := by
  rcases h.row with ⟨rfl, h0⟩ | ⟨g, off, cur, rfl, hb, h1, h2⟩
  · have := h.len; have := h.le; omega
  · refine ⟨g, off, rfl, lt_of_obj hb, fun k hk => ?_⟩
    have e := fm_get (enc := qc) qc_len ms i hi k hk
    have hkl : k < (qc ms[i]).length := by rw [qc_len]; exact hk
    rw [List.getElem?_eq_getElem hkl] at e ⊢
    refine cell_of_heap hb ?_
    rw [Nat.add_assoc]
    exact h2 _ _ e
/-- what the source of an append yields -/
theorem MsP.src (h : MsP w a n c ms) : Src Tryd.prog 9 44 (.slice a n c) n (ms.flatMap qc) w := by
  have hlen := fm_len (enc := qc) qc_len ms
  rcases h.row with ⟨rfl, rfl⟩ | ⟨g, off, cur, rfl, hb, h1, h2⟩
  · have h0 := h.le
    obtain rfl : n = 0 := by omega
    have hm : ms = [] := List.eq_nil_of_length_eq_zero h.len.symm
    subst hm
    exact Src.ofNil w Tryd.underlying44 0
  · refine Src.ofSlice w Tryd.underlying44 ⟨g, off, none⟩ n c (ms.flatMap qc) (by rw [hlen, h.len]) (fun j u hj => ?_) (qc_one ms)
    rw [Addr.add_lit]
    exact cell_of_heap hb (h2 j u hj)
end
/-- the result of an append, and what it has changed -/
def ApPost (a : Option Addr) (W W' : World) (a' : Option Addr) (n c : Nat) (ms : List Qm) : Prop := MsP W' a' n c ms ∧ ChgP (MB a) W W' ∧ ∀ g, MB a' g → MB a g ∨ (W.heap.size ≤ g ∧ g < W'.heap.size)
theorem MsP.app {W : World} {a a2 : Option Addr} {n c k c2 : Nat} {ms ms2 : List Qm} (h : MsP W a n c ms) (h2 : MsP W a2 k c2 ms2) (hn : n + k ≤ 100000) :
    ∃ a' c' W', (Builtin.append_ #[44, 44] 44 #[.slice a n c, .slice a2 k c2]).run Tryd.prog W = .ok (.slice a' (n + k) c') W' ∧ ApPost a W W' a' (n + k) c' (ms ++ ms2) := by
  obtain ⟨i0, hi, hz0, hz1, hz2⟩ := info_parts infoQm
  have hs := h2.src
  have hl1 := fm_len (enc := qc) qc_len ms
  have hl2 := fm_len (enc := qc) qc_len ms2
  have hkl := h2.len
  have hnl := h.len
  by_cases hk : k = 0
  · subst hk
    have hm : ms2 = [] := List.eq_nil_of_length_eq_zero h2.len.symm
    subst hm
    refine ⟨a, c, W, ?_, ?_⟩
    · have := run_append_nothing (P := Tryd.prog) W 44 44 44 27 i0 Tryd.underlying44 hi a n c h.le (.slice a2 0 c2) (by rw [hz1]; exact hs)
      exact this
    · refine ⟨by rw [List.append_nil]; exact h, ChgP.refl _ _, fun g hg => Or.inl hg⟩
  rcases h2.row with ⟨rfl, h0⟩ | ⟨g2, off2, cur2, rfl, hb2, hs2, hcell2⟩
  · have := h2.le; omega
  have hnews : ∀ j u, (ms2.flatMap qc)[j]? = some u → W.cell? ((⟨g2, off2, none⟩ : Addr).add j) = some u := fun j u hj => by
    rw [Addr.add_lit]; exact cell_of_heap hb2 (hcell2 j u hj)
  by_cases hroom : n + k ≤ c
  · rcases h.row with ⟨rfl, h0⟩ | ⟨g, off, cur, rfl, hb, h3, hcell⟩
    · omega
    have hw : (ms2.flatMap qc).length = k * 9 := by rw [hl2, hkl]
    have hin : off + n * 9 + (ms2.flatMap qc).length ≤ cur.size := by
      have : (n + k) * 9 ≤ c * 9 := Nat.mul_le_mul_right _ hroom
      omega
    obtain ⟨cur', e1, e2, e3, e4⟩ := heap_setCells (w := W) (g := g) (ms2.flatMap qc) (off + n * 9) cur W hb hin
    have hc := chg_setCells g (ms2.flatMap qc) (off + n * 9) W
    refine ⟨some ⟨g, off, none⟩, c, W.setCells g (off + n * 9) (ms2.flatMap qc), ?_, ⟨by rw [List.length_append]; omega, hroom, h.cap, Or.inr ⟨g, off, cur', rfl, e1, by omega, fun j u hj => ?_⟩⟩, ?_, fun g' hg' => Or.inl hg'⟩
    · have := run_append_room_src (P := Tryd.prog) W 44 44 44 27 i0 Tryd.underlying44 hi g off n c (.slice (some ⟨g2, off2, none⟩) k c2) k (ms2.flatMap qc) (by rw [hz1]; exact hs) hroom (fun j hj => by
        rw [hz1]
        have hx : off + n * 9 + j < cur.size := by omega
        rw [cell_of_heap hb (Array.getElem?_eq_getElem hx)]; rfl) (fun j hj => frozen_of_heap (i := off + n * i0.size + j) hb)
      rw [hz1] at this
      exact this
    · rw [List.flatMap_append] at hj
      by_cases hj1 : j < (ms.flatMap qc).length
      · rw [List.getElem?_append_left hj1] at hj
        rw [e3 _ (by omega)]
        exact hcell j u hj
      · rw [List.getElem?_append_right (by omega)] at hj
        have hj2 : j - (ms.flatMap qc).length < (ms2.flatMap qc).length := (List.getElem?_eq_some_iff.1 hj).1
        have := e4 _ hj2
        rw [hj, show off + n * 9 + (j - (ms.flatMap qc).length) = off + j by omega] at this
        exact this
    · exact hc.toP.mono fun g' hg' => by rw [List.mem_singleton.1 hg']; exact MB.self g off
  · have fin : ∀ v' W', (Builtin.append_ #[44, 44] 44 #[.slice a n c, .slice (some ⟨g2, off2, none⟩) k c2]).run Tryd.prog W = .ok v' W' → W'.ownsRow W.heap.size 27 9 v' (n + k) (ms.flatMap qc ++ ms2.flatMap qc) → W.grownBy W' none →
        ∃ a' c' W', (Builtin.append_ #[44, 44] 44 #[.slice a n c, .slice (some ⟨g2, off2, none⟩) k c2]).run Tryd.prog W = .ok (.slice a' (n + k) c') W' ∧ ApPost a W W' a' (n + k) c' (ms ++ ms2) := fun v' W' hr ho hg => by
      obtain ⟨a', c', rfl⟩ := ownsRow_shape ho
      refine ⟨a', c', W', hr, MsP.own ⟨W.heap.size, by rw [List.flatMap_append]; exact ho⟩ (by rw [List.length_append]; omega), (ChgP.refl _ _).grown hg (fun k h => by cases h), fun g hg' => Or.inr ?_⟩
      obtain ⟨off, rfl⟩ := hg'
      rcases ho.2 with ⟨hv, hx⟩ | ⟨g', cap', cur, hv, hge, hh, _⟩
      · cases hv
      · cases hv
        exact ⟨hge, lt_of_obj hh⟩
    rcases h.row with ⟨rfl, h0⟩ | ⟨g, off, cur, rfl, hb, h3, hcell⟩
    · have h4 := h.le
      obtain rfl : n = 0 := by omega
      subst h0
      have hm : ms = [] := List.eq_nil_of_length_eq_zero h.len.symm
      subst hm
      obtain ⟨v', W', hr, ho, hg, _⟩ := run_append_own_at (P := Tryd.prog) W W.heap.size 44 44 27 i0 _ 9 120 Tryd.underlying44 hi hz0 hz1 hz2 rfl (by decide) (.slice none 0 0) 0 [] (World.ownsRow_nil _ _ _ _) ⟨g2, off2, none⟩ k c2 (ms2.flatMap qc) (by rw [hl2, hkl]) hnews (qc_one ms2) (by unfold maxLen; omega) (by omega) (Nat.le_refl _)
      exact fin v' W' hr ho hg
    · obtain ⟨v', W', hr, ho, hg⟩ := run_append_arg_grows (P := Tryd.prog) W 44 44 27 i0 _ 9 120 Tryd.underlying44 hi hz0 hz1 hz2 rfl (by decide) ⟨g, off, none⟩ n c (ms.flatMap qc) (by rw [hl1, hnl]) (fun j u hj => by rw [Addr.add_lit]; exact cell_of_heap hb (hcell j u hj)) ⟨g2, off2, none⟩ k c2 (ms2.flatMap qc) (by rw [hl2, hkl]) hnews (by omega) (by unfold maxLen; omega) (by omega)
      exact fin v' W' hr ho hg
/-- a part of a slice of messages -/
theorem MsP.take {w : World} {a : Option Addr} {n c : Nat} {ms : List Qm} (h : MsP w a n c ms) {k : Nat} (hk : k ≤ n) : MsP w a k c (ms.take k) := by
  refine ⟨by rw [List.length_take]; have := h.len; omega, Nat.le_trans hk h.le, h.cap, h.row.imp id ?_⟩
  rintro ⟨g, off, cur, rfl, hb, h1, h2⟩
  refine ⟨g, off, cur, rfl, hb, h1, fun j u hj => h2 j u ?_⟩
  have e : ms.flatMap qc = (ms.take k).flatMap qc ++ (ms.drop k).flatMap qc := by rw [← List.flatMap_append, List.take_append_drop]
  rw [e, List.getElem?_append_left (List.getElem?_eq_some_iff.1 hj).1]
  exact hj
theorem MsP.drop {w : World} {g off n c : Nat} {ms : List Qm} (h : MsP w (some ⟨g, off, none⟩) n c ms) {k : Nat} (hk : k ≤ n) : MsP w (some ⟨g, off + k * 9, none⟩) (n - k) (c - k) (ms.drop k) := by
  have hle := h.le
  refine ⟨by rw [List.length_drop]; have := h.len; omega, by omega, by have := h.cap; omega, ?_⟩
  rcases h.row with ⟨h0, _⟩ | ⟨g', off', cur, he, hb, h1, h2⟩
  · cases h0
  · cases he
    refine Or.inr ⟨g, off + k * 9, cur, rfl, hb, ?_, fun j u hj => ?_⟩
    · have : (c - k) * 9 = c * 9 - k * 9 := Nat.sub_mul c k 9
      have : k * 9 ≤ c * 9 := Nat.mul_le_mul_right _ (by omega)
      omega
    · have hlk : ((ms.take k).flatMap qc).length = k * 9 := by
        rw [fm_len (enc := qc) qc_len, List.length_take, Nat.min_eq_left (by have := h.len; omega)]
      have := h2 (k * 9 + j) u (by
        have e : ms.flatMap qc = (ms.take k).flatMap qc ++ (ms.drop k).flatMap qc := by rw [← List.flatMap_append, List.take_append_drop]
        rw [e, List.getElem?_append_right (by omega), hlk, Nat.add_sub_cancel_left]
        exact hj)
      rwa [← Nat.add_assoc] at this
def CmPost (n : Nat) (ms : List Qm) (w : World) (e : Ending) (w' : World) : Prop := ∃ a' c', e = .returned (.slice a' n c') ∧ ApPost none w w' a' n c' ms
set_option maxHeartbeats 4000000 in
theorem cloneMs_any {w : World} {a : Option Addr} {n c : Nat} {ms : List Qm} (h : MsP w a n c ms) (hn : n ≤ 1000) : Calls Tryd.prog 28 #[.slice a n c] w (CmPost n ms w) := by
  obtain ⟨a', c', W', hr, hP⟩ := (MsP.nil w).app h (by omega)
  rw [Nat.zero_add, List.nil_append] at hP
  rw [Nat.zero_add] at hr
  have Hr := Lib.hid hr
  have HP := Lib.hid hP
  clear hr hP h
  go_enter Tryd.func28, Tryd.ntmps28
  go_wp2_with (at_builtin; refine wpList_append_run rfl _ _ _ rfl _ _ _ _ rfl rfl Hr.out ?_)
  go_ret
  exact ⟨a', c', rfl, HP.out⟩
/-- others' blocks may be named anew once they are known to lie apart -/
theorem Srv.reX {w w' : World} {nb sb jl jn ql qn : Nat} {ja qa : Option Addr} {js : List Jb} {qs : List Qm} {X X' S : Nat → Prop} (h : Srv w ⟨nb, X⟩ sb ja jl jn qa ql qn js qs) (hc : ChgP S w w') (hS : ∀ g, S g → g ≠ sb ∧ X g) (hX : ∀ g, X' g → g < w'.heap.size ∧ (X g ∨ w.heap.size ≤ g)) : Srv w' ⟨nb, X'⟩ sb ja jl jn qa ql qn js qs :=
  ⟨(hc.block sb (lt_of_obj h.box) fun hs => (hS _ hs).1 rfl).trans h.box, ownsRow_kept h.jobs fun g hg hl => hc.block g hl fun hs => h.xj g hg (hS g hs).2, ownsRow_kept h.queue fun g hg hl => hc.block g hl fun hs => h.xq g hg (hS g hs).2, h.jl, h.ql, h.sb, Nat.le_trans h.base hc.size,
    fun g hg hx => by
      rcases (hX g hx).2 with hx | hx
      · exact h.xj g hg hx
      · have := (ownsRow_ge h.jobs hg).2; omega,
    fun g hg hx => by
      rcases (hX g hx).2 with hx | hx
      · exact h.xq g hg hx
      · have := (ownsRow_ge h.queue hg).2; omega,
    fun g hx => (hX g hx).1⟩
end Go.Proofs.YtiklgipcgdgkoaaDoor.Jv
