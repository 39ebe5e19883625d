/- wordindex: clone. -/
import Derived.Test.YtnkacmcggcdlpaaWiO
namespace Go.Proofs.Ytnkacmcggcdlpaa
open Go.RowKit Go.ChangeMaps Go.MapKept Go.Shelf
set_option linter.unusedVariables false
set_option linter.unusedSimpArgs false
/-- an entry with other words -/
def Ent.setW (e : Ent) (a : Option Addr) (n c : Nat) : Ent := ⟨e.nm, e.sum, a, n, c⟩
theorem encE_nth (e : Ent) : (encE e)[0]? = some (.string e.nm) ∧ (encE e)[1]? = some (.int .u32 e.sum) ∧ (encE e)[2]? = some e.wv := ⟨rfl, rfl, rfl⟩
theorem enCells_ext {es : List Ent} {m : List Value} (hl : m.length = es.length * 3) (h : ∀ j (hj : j < es.length) c, c < 3 → m[j * 3 + c]? = (encE es[j])[c]?) : m = enCells es := by
  refine List.ext_getElem? fun i => ?_
  by_cases hi : i < es.length * 3
  · have hj : i / 3 < es.length := by omega
    have h1 := h (i / 3) hj (i % 3) (Nat.mod_lt _ (by decide))
    have h2 := enCells_get es (i / 3) hj (i % 3) (Nat.mod_lt _ (by decide))
    rw [show i / 3 * 3 + i % 3 = i by omega] at h1 h2
    rw [h1, h2]
  · rw [List.getElem?_eq_none (by omega), List.getElem?_eq_none (by rw [enCells_len]; omega)]
theorem enCells_setW (es : List Ent) (k : Nat) (hk : k < es.length) (a : Option Addr) (n c : Nat) : (enCells es).set (k * 3 + 2) (.slice a n c) = enCells (es.set k (es[k].setW a n c)) := by
  refine enCells_ext (by rw [List.length_set, List.length_set, enCells_len]) fun j hj d hd => ?_
  have hj' : j < es.length := by simpa using hj
  rw [List.getElem?_set]
  by_cases hjk : j = k
  · subst hjk
    rw [List.getElem_set_self]
    by_cases hd2 : d = 2
    · subst hd2
      rw [if_pos rfl, if_pos (by rw [enCells_len]; omega)]
      rfl
    · rw [if_neg (by omega), enCells_get es j hj' d hd]
      rcases (by omega : d = 0 ∨ d = 1) with e | e <;> subst e <;> rfl
  · rw [if_neg (by omega), List.getElem_set_ne (by omega), enCells_get es j hj' d hd]
theorem EnR.kept {w w' : World} {q q' : Nat → Prop} {S : Nat → Prop} {e : Ent} {x : Ie} (h : EnR w q e x) (hc : ChgP S w w') (hS : ∀ g, q g → ¬ S g) (hq : ∀ g, q g → q' g) : EnR w' q' e x := ⟨h.1, h.2.1, (h.2.2.kept hc hS).imp hq⟩
def ClPost (I : List Ie) (w : World) (e : Ending) (w' : World) : Prop := ∃ v' es, e = .returned v' ∧ es.length = I.length ∧ OwnEn w' w.heap.size v' es ∧ (∀ i (hi : i < es.length), EnR w' (fun g => v'.ownBlock ≠ some g ∧ w.heap.size ≤ g ∧ g < w'.heap.size) es[i] (I.getD i ie0)) ∧ Chg [] w w'
/-- the state of clone's loop -/
structure ClS (q : Nat → Prop) (I : List Ie) (w wr : World) (v : Value) (k : Nat) (es : List Ent) : Prop where
  own : OwnEn wr w.heap.size v es
  len : es.length = I.length
  new : ∀ i (hi : i < es.length), i < k → EnR wr (fun g => v.ownBlock ≠ some g ∧ w.heap.size ≤ g ∧ g < wr.heap.size) es[i] (I.getD i ie0)
  old : ∀ i (hi : i < es.length), k ≤ i → EnR wr q es[i] (I.getD i ie0)
  chg : Chg [] w wr
theorem ClS.next {q : Nat → Prop} {I : List Ie} {w wr w5 : World} {g n c k : Nat} {es : List Ent} {a5 : Option Addr} {m5 c5 : Nat} (h : ClS q I w wr (.slice (some ⟨g, 0, none⟩) n c) k es) (hn : es.length = n) (hq : ∀ g, q g → g < w.heap.size) (hk : k < es.length)
    (hc5 : Chg [] wr w5) (hs : StrsP (fun g => wr.heap.size ≤ g ∧ g < w5.heap.size) w5 (.slice a5 m5 c5) (I.getD k ie0).2.2) :
    ClS q I w (w5.setCell ⟨g, k * 3 + 2, none⟩ (.slice a5 m5 c5)) (.slice (some ⟨g, 0, none⟩) n c) (k + 1) (es.set k (es[k].setW a5 m5 c5)) := by
  subst hn
  have hge := (ownsRow_ge h.own (g := g) rfl).1
  have hlt : g < wr.heap.size := (h.own.lt g rfl).2
  have ho5 := h.own.same hc5
  have hrow := row_set (u := .slice a5 m5 c5) ho5 (i := k * 3 + 2) (by omega)
  rw [enCells_setW es k hk] at hrow
  have hc6 : Chg [g] w5 (w5.setCell ⟨g, k * 3 + 2, none⟩ (.slice a5 m5 c5)) := (Chg.refl [g] w5).setCell (Or.inl (by simp)) _
  have hch : Chg [g] wr (w5.setCell ⟨g, k * 3 + 2, none⟩ (.slice a5 m5 c5)) := (hc5.mono (by simp)).trans hc6
  have hs5 := hc5.size
  have hs6 := hc6.size
  have hw := h.chg.size
  refine ⟨by unfold OwnEn; rw [List.length_set]; exact hrow, by rw [List.length_set]; exact h.len, fun i hi hik => ?_, fun i hi hik => ?_, ?_⟩
  · have hi' : i < es.length := by simpa using hi
    by_cases e : i = k
    · subst e
      rw [List.getElem_set_self]
      have ho := h.old i hi' (Nat.le_refl _)
      refine ⟨ho.1, ho.2.1, (hs.kept hc6.toP fun g' hg' hm => ?_).imp fun g' hg' => ⟨fun e => ?_, by have := hg'.1; omega, by have := hg'.2; omega⟩⟩
      · have := List.mem_singleton.1 hm
        have := hg'.1
        omega
      · have e' : g = g' := by simpa [Value.ownBlock] using e
        have := hg'.1
        omega
    · rw [List.getElem_set_ne (by omega)]
      refine (h.new i hi' (by omega)).kept hch.toP (fun g' hg' hm => ?_) fun g' hg' => ⟨hg'.1, hg'.2.1, by have := hg'.2.2; omega⟩
      exact hg'.1 (by rw [List.mem_singleton.1 hm]; rfl)
  · have hi' : i < es.length := by simpa using hi
    rw [List.getElem_set_ne (by omega)]
    refine (h.old i hi' (by omega)).kept hch.toP (fun g' hg' hm => ?_) fun g' hg' => hg'
    have := hq g' hg'
    have := List.mem_singleton.1 hm
    omega
  · exact h.chg.comp hch fun g' hg' => Or.inr (by rw [List.mem_singleton.1 hg']; exact hge)
set_option maxRecDepth 100000 in
set_option maxHeartbeats 2000000 in
theorem clone_any (p q : Nat → Prop) (w : World) (v : Value) (I : List Ie) (h : IxP p q w v I) (hl : I.length ≤ 1000) (hq : ∀ g, q g → g < w.heap.size) (hw : ∀ x ∈ I, x.2.2.length ≤ 1000) :
    Calls Try.prog 26 #[v] w (ClPost I w) := by
  have Hcl := Lib.hid (entClone_any p q w v I h hl)
  have Hq := Lib.hid hq
  have Hw := Lib.hid hw
  obtain ⟨a0, c0, rfl, _, _⟩ := h.shape
  clear h hq hw
  go_enter Try.func26, Try.ntmps26
  go_wp2_with fail
  refine Hcl.out.mono ?_
  rintro e w1 ⟨v1, es1, rfl, hel, hown, hR, hc1⟩
  obtain ⟨a, c, rfl⟩ := ownsRow_shape hown
  have hb := OwnEn.bound hown
  have HS := Lib.hid (show ClS q I w w1 (.slice a es1.length c) 0 es1 from ⟨hown, hel, fun i _ h => absurd h (by omega), fun i hi _ => (hR i hi).kept (hc1.p (S := fun _ => False)) (fun _ _ h => h) fun _ h => h, hc1⟩)
  have Hel := Lib.hid hel
  have hbc := hb.2.1
  obtain ⟨n, hn⟩ : ∃ n, n = es1.length := ⟨_, rfl⟩
  rw [← hn] at HS hbc ⊢
  have Hn := Lib.hid (hn.trans hel)
  have hn1 : n ≤ 1000 := by omega
  clear hown hR hc1 hb hn hel
  go_wp2_with fail
  go_loopw [8] (fun i wr => ∃ (k : Nat) (es : List Ent), k ≤ n ∧ i = .int .i64 (k : Nat) ∧ Hid (ClS q I w wr (.slice a n c) k es)) (fun i _ => n - (intOf i).toNat)
  case atStart => exact ⟨0, es1, by omega, rfl, HS⟩
  case round =>
    obtain ⟨k, es, hk, rfl, HC⟩ := hrel
    by_cases hlt : k < n
    · have hes : es.length = n := HC.out.len.trans Hn.out.symm
      have hkl : k < es.length := by omega
      obtain ⟨g, cc, hv, hge, hgl⟩ := World.ownsRow.form HC.out.own (by omega)
      simp only [Value.slice.injEq] at hv
      obtain ⟨rfl, hnn, rfl⟩ := hv
      clear hnn
      have ho := HC.out.old k hkl (Nat.le_refl _)
      obtain ⟨x, hx⟩ : ∃ x, I.getD k ie0 = x := ⟨_, rfl⟩
      rw [hx] at ho
      have hxm : x ∈ I := by rw [← hx]; exact getD_memb (by have := Hn.out; omega) _
      have hxl := Hw.out x hxm
      have hcell : ∀ d u, (encE es[k])[d]? = some u → d < 3 → wr.cell? ⟨g, k * 3 + d, none⟩ = some u := by
        intro d u hu hd
        rw [← enCells_get es k hkl d hd] at hu
        have := World.ownsRow.cells HC.out.own (g := g) rfl _ _ hu
        rwa [Addr.add_lit, Nat.zero_add] at this
      have k2 : wr.cell? ⟨g, k * 3 + 2, none⟩ = some (es[k].wv) := hcell 2 _ rfl (by decide)
      obtain ⟨ua, uc, hwv, _, _⟩ := ho.2.2.shape
      have hso := ho.2.2
      rw [hwv] at k2 hso
      have hfr : wr.heap[g]? ≠ none ∧ ∀ i, wr.frozen? ⟨g, i, none⟩ = false := by
        rcases HC.out.own.2 with ⟨hv, _⟩ | ⟨g', cap', cur', hv, _, hh, _⟩
        · cases hv
        · cases hv
          exact ⟨by rw [hh]; simp, fun i => frozen_of_heap hh⟩
      have hf2 := hfr.2 (k * 3 + 2)
      have Hsc := Lib.hid (strClone_any q wr _ x.2.2 hso (by omega))
      have lg := lt_of_cell k2
      have hk1 : (k : Int) < n := by omega
      have hk0 : (0 : Int) ≤ (k : Int) := by omega
      have Hx := Lib.hid hx
      have Hkl := Lib.hid hkl
      have Hes := Lib.hid hes
      clear hfr hcell hwv hso ho hx hxm hkl hes
      go_wp2_with fail
      refine Hsc.out.mono ?_
      rintro e w5 ⟨a5, c5, rfl, hs5, hc5⟩
      have k5 : w5.cell? ⟨g, k * 3 + 2, none⟩ = some (.slice ua x.2.2.length uc) := (hc5.cell (p := ⟨g, k * 3 + 2, none⟩) lg (by simp)).trans k2
      have f5 : w5.frozen? ⟨g, k * 3 + 2, none⟩ = false := by
        have h1 := (HC.out.own.same hc5)
        rcases h1.2 with ⟨hv, _⟩ | ⟨g', cap', cur', hv, _, hh, _⟩
        · cases hv
        · cases hv
          exact frozen_of_heap hh
      have HN := Lib.hid (show ClS q I w (w5.setCell ⟨g, k * 3 + 2, none⟩ (.slice a5 x.2.2.length c5)) (.slice (some ⟨g, 0, none⟩) n c) (k + 1) (es.set k (es[k].setW a5 x.2.2.length c5)) by
        exact HC.out.next Hes.out Hq.out Hkl.out hc5 (by rw [Hx.out]; exact hs5))
      clear hs5 hc5
      go_wp2_with fail
      exact ⟨⟨k + 1, _, by omega, by go_num, HN⟩, by simp [intOf]; omega⟩
    · have hk1 : ¬ ((k : Int) < n) := by omega
      go_wp2_with fail
      go_ret
      have hC := HC.out
      have hkn : k = n := by omega
      refine ⟨_, es, rfl, hC.len, hC.own, fun i hi => hC.new i hi (by have := Hn.out; have := hC.len; omega), hC.chg⟩
end Go.Proofs.Ytnkacmcggcdlpaa
