/- Protocol messages: what Decode looks at. -/
import Derived.Test.YtiklgipcgdgkoaaDoorJrG
namespace Go.Proofs.YtiklgipcgdgkoaaDoor.Jv
open Go.RowKit Go.ChangeMaps Go.MapKept
set_option linter.unusedVariables false
set_option linter.unusedSimpArgs false
def pT : ByteArray := ⟨#[112, 97, 114, 97, 109, 115]⟩
def lastNm (n : Nat) : ByteArray := if n = 2 then ⟨#[114, 101, 115, 117, 108, 116]⟩ else if n = 3 then ⟨#[101, 114, 114, 111, 114]⟩ else pT
def encN (j : J) (n : Nat) : Int × J := encM ((n : Int) + 1) (candI j n) (candC j n) (candT j n) (candB j n)
def shortJ (E : J) : J := .mk 5 0 ⟨#[]⟩ (E.names.take (E.elems.length - 1)) (E.elems.take (E.elems.length - 1))
def isShort (j : J) (n : Nat) : Bool := decide (lastNm n = pT) && (isNJ (candB j n) && decide (n ≠ 4))
def shortN (j : J) (n : Nat) : J := if isShort j n = true then shortJ (encN j n).2 else (encN j n).2
/-- is candidate n the message -/
def hit (j : J) (n : Nat) : Bool := decide ((encN j n).1 = 0) && (j.equal Jv.u8 (encN j n).2 || j.equal Jv.u8 (shortN j n))
theorem encM_ok {k i c : Int} {t : ByteArray} {b : J} (h : (encM k i c t b).1 = 0) : (1 ≤ k ∧ k ≤ 5) ∧ wfJ k i c t b = true ∧ b.valid u8 = 0 ∧ (toM k i c t b).valid u8 = 0 ∧ encM k i c t b = (0, toM k i c t b) := by
  unfold encM at h ⊢
  by_cases h1 : k < 1 ∨ 5 < k
  · rw [if_pos h1] at h; exact absurd h (by decide)
  rw [if_neg h1] at h ⊢
  by_cases h2 : wfJ k i c t b = false
  · rw [if_pos h2] at h; exact absurd h (by decide)
  rw [if_neg h2] at h ⊢
  by_cases h3 : b.valid u8 ≠ 0
  · rw [if_pos h3] at h; exact absurd h h3
  rw [if_neg h3] at h ⊢
  by_cases h4 : (toM k i c t b).valid u8 ≠ 0
  · rw [if_pos h4] at h; exact absurd h h4
  rw [if_neg h4]
  exact ⟨by omega, by simpa using h2, by simpa using h3, by simpa using h4, rfl⟩
theorem encN_shape {j : J} {n : Nat} (hn : n < 5) (h : (encN j n).1 = 0) : ∃ L, (2 ≤ L ∧ L ≤ 3) ∧ (encN j n).2.kind = 5 ∧ (encN j n).2.names.length = L ∧ (encN j n).2.elems.length = L ∧ (encN j n).2.names[L - 1]? = some (lastNm n) := by
  have := (encM_ok h).2.2.2.2
  unfold encN
  rw [this]
  have hn5 : n = 0 ∨ n = 1 ∨ n = 2 ∨ n = 3 ∨ n = 4 := by omega
  rcases hn5 with rfl | rfl | rfl | rfl | rfl
  · exact ⟨3, by decide, rfl, rfl, rfl, rfl⟩
  · exact ⟨2, by decide, rfl, rfl, rfl, rfl⟩
  · exact ⟨2, by decide, rfl, rfl, rfl, rfl⟩
  · exact ⟨2, by decide, rfl, rfl, rfl, rfl⟩
  · exact ⟨2, by decide, rfl, rfl, rfl, rfl⟩
theorem SlR.take {α : Type} {p : Nat → Prop} {sz : Nat} {rd : World → Addr → α → Prop} {w : World} {a : Option Addr} {n cap k : Nat} {xs : List α} (h : SlR p sz rd w (.slice a n cap) xs) (hk : k ≤ n) : SlR p sz rd w (.slice a k cap) (xs.take k) := by
  obtain ⟨a', cap', hv, h1, h2, h3⟩ := h
  simp only [Value.slice.injEq] at hv
  obtain ⟨rfl, rfl, rfl⟩ := hv
  have hl : (xs.take k).length = k := by rw [List.length_take]; omega
  refine ⟨a, cap, by rw [hl], by omega, h2, fun h0 => ?_⟩
  obtain ⟨g, off, rfl, hg, hc⟩ := h3 (by omega)
  exact ⟨g, off, rfl, hg, fun i hi => by rw [List.getElem_take]; exact hc i (by omega)⟩
/-- a member's value is read somewhere -/
theorem lk_JV {p : Nat → Prop} {f : Nat} {w : World} {v : Value} {j : J} (h : JV p f w v j) (s : ByteArray) : ∃ f' v', JV p f' w v' (lk j s) := by
  cases hf : j.findG s with
  | none => exact ⟨0, _, by unfold lk; rw [hf]; exact JV.zero p 0 w⟩
  | some e =>
    obtain ⟨i, hi, he⟩ := List.getElem_of_mem (findG_mem hf)
    obtain ⟨na, nc, ia, ic, hv, _, hes, _⟩ := h.shape
    obtain ⟨g, off, na2, nc2, ia2, ic2, _, _, _, _, _, _, _, f', _, hj⟩ := elem_at hes hi
    rw [he] at hj
    exact ⟨f', _, by unfold lk; rw [hf]; exact hj⟩
theorem JV.tsize {p : Nat → Prop} {f : Nat} {w : World} {v : Value} {j : J} (h : JV p f w v j) : j.text.size ≤ maxLen := h.shape.choose_spec.choose_spec.choose_spec.choose_spec.2.2.2.2.2
theorem candT_size {p : Nat → Prop} {f : Nat} {w : World} {v : Value} {j : J} (h : JV p f w v j) (n : Nat) : (candT j n).size ≤ maxLen := by
  unfold candT
  split
  · obtain ⟨_, _, hm⟩ := lk_JV h ⟨#[109, 101, 116, 104, 111, 100]⟩
    exact hm.tsize
  · split
    · obtain ⟨_, _, he⟩ := lk_JV h ⟨#[101, 114, 114, 111, 114]⟩
      obtain ⟨_, _, hm⟩ := lk_JV he ⟨#[109, 101, 115, 115, 97, 103, 101]⟩
      exact hm.tsize
    · decide
/-- a message stored into a box -/
def stM (w : World) (g : Nat) (k i c : Int) (t : ByteArray) (e : Ev) : World :=
  ((((((((w.setCell ⟨g, 0, none⟩ (.int .i64 k)).setCell ⟨g, 1, none⟩ (.int .i64 i)).setCell ⟨g, 2, none⟩ (.int .i64 c)).setCell ⟨g, 3, none⟩ (.string t)).setCell ⟨g, 4, none⟩ (.int .i64 e.k)).setCell ⟨g, 5, none⟩ (.int .i64 e.n)).setCell ⟨g, 6, none⟩ (.string e.t)).setCell ⟨g, 7, none⟩ (.slice e.na e.nl e.nc)).setCell ⟨g, 8, none⟩ (.slice e.ia e.il e.ic)
theorem stM_chg (w : World) (g : Nat) (k i c : Int) (t : ByteArray) (e : Ev) : Chg [g] w (stM w g k i c t e) :=
  (((((((((Chg.refl [g] w).setCell (Or.inl (by simp)) _).setCell (Or.inl (by simp)) _).setCell (Or.inl (by simp)) _).setCell (Or.inl (by simp)) _).setCell (Or.inl (by simp)) _).setCell (Or.inl (by simp)) _).setCell (Or.inl (by simp)) _).setCell (Or.inl (by simp)) _).setCell (Or.inl (by simp)) _
theorem nineM {w : World} {g : Nat} {v0 v1 v2 v3 v4 v5 v6 v7 v8 : Value} {T : TypeId} (h : w.heap[g]? = some (.cells #[v0, v1, v2, v3, v4, v5, v6, v7, v8] T (0, 0))) :
    (w.cell? ⟨g, 0, none⟩ = some v0 ∧ w.cell? ⟨g, 1, none⟩ = some v1 ∧ w.cell? ⟨g, 2, none⟩ = some v2 ∧ w.cell? ⟨g, 3, none⟩ = some v3 ∧ w.cell? ⟨g, 4, none⟩ = some v4 ∧ w.cell? ⟨g, 5, none⟩ = some v5 ∧ w.cell? ⟨g, 6, none⟩ = some v6 ∧ w.cell? ⟨g, 7, none⟩ = some v7 ∧ w.cell? ⟨g, 8, none⟩ = some v8) ∧ (∀ i, w.frozen? ⟨g, i, none⟩ = false) ∧ g < w.heap.size :=
  ⟨⟨cell_of_heap h rfl, cell_of_heap h rfl, cell_of_heap h rfl, cell_of_heap h rfl, cell_of_heap h rfl, cell_of_heap h rfl, cell_of_heap h rfl, cell_of_heap h rfl, cell_of_heap h rfl⟩, fun i => frozen_of_heap (i := i) h, lt_of_obj h⟩
/-- what Decode gives -/
def DePost (f : Nat) (j : J) (w : World) (e : Ending) (w' : World) : Prop :=
  ((∃ n, n < 5 ∧ hit j n = true ∧ (∀ m, m < n → hit j m = false) ∧ ∃ ev : Ev, e = .returned (.tuple #[mB ((n : Int) + 1) (candI j n) (candC j n) (candT j n) ev, .int .i64 0]) ∧ JN w.heap.size f w' ev.val (candB j n)) ∨
   ((∀ m, m < 5 → hit j m = false) ∧ e = .returned (.tuple #[mB 0 0 0 ⟨#[]⟩ ev0, .int .i64 3]))) ∧ Chg [] w w'
end Go.Proofs.YtiklgipcgdgkoaaDoor.Jv
