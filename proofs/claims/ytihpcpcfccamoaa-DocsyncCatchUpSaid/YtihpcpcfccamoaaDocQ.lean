/- DocsyncConverges: the replicas beside the room. -/
import Derived.Test.YtihpcpcfccamoaaDocEq
namespace Go.Proofs.Ytihpcpcfccamoaa
open Go.RowKit
set_option linter.unusedVariables false
set_option linter.unusedSimpArgs false
variable {w a a' : World} {Q X : List Nat} {rb : Nat} {cl : List Int} {ver : Int} {text : ByteArray} {hist : List (List Edit)} {rd : List Int}
theorem Rm.grow (h : Rm w a X rb cl ver text hist rd) {S : Nat → Prop} (hc : ChgP S a a') (hS : ∀ k, S k → k ∈ X ∧ w.heap.size ≤ k) (L : List Nat) (hL : ∀ b ∈ L, b ∈ X ∨ (a.heap.size ≤ b ∧ b < a'.heap.size)) : Rm w a' (X ++ L) rb cl ver text hist rd := by
  obtain ⟨P, h1, h2, h3, h4⟩ := h
  refine ⟨P, h1.kept hc fun k hk e => (h3 k (hS k e).1).2 hk, h2, fun b hb => ?_, chgP_new h4.p hc fun k hk => (hS k hk).2⟩
  rcases List.mem_append.1 hb with hb | hb
  · exact ⟨Nat.lt_of_lt_of_le (h3 b hb).1 hc.size, (h3 b hb).2⟩
  · rcases hL b hb with hb | hb
    · exact ⟨Nat.lt_of_lt_of_le (h3 b hb).1 hc.size, (h3 b hb).2⟩
    · exact ⟨hb.2, fun hP => by have := h1.bd b hP; omega⟩
def ptrs (Q : List Nat) : List Value := Q.map fun b => Value.pointer (some ⟨b, 0, none⟩)
/-- the room, and a slice of pointers to replicas in the blocks Q -/
structure CvI (w a : World) (X : List Nat) (v : Value) (Q : List Nat) (rb : Nat) (cl : List Int) (ver : Int) (text : ByteArray) (hist : List (List Edit)) (rd : List Int) : Prop where
  room : Rm w a X rb cl ver text hist rd
  inX : ∀ b ∈ Q, b ∈ X ∧ w.heap.size ≤ b ∧ v.ownBlock ≠ some b
  own : ∀ g, v.ownBlock = some g → g ∈ X
  nodup : Q.Nodup
  row : a.ownsRow w.heap.size 36 1 v Q.length (ptrs Q)
variable {v : Value}
theorem CvI.lts (h : CvI w a X v Q rb cl ver text hist rd) : ∀ b ∈ X, b < a.heap.size := by
  obtain ⟨P, _, _, h3, _⟩ := h.room
  exact fun b hb => (h3 b hb).1
theorem CvI.same (h : CvI w a X v Q rb cl ver text hist rd) (hc : Chg [] a a') : CvI w a' X v Q rb cl ver text hist rd :=
  ⟨h.room.same hc, h.inX, h.own, h.nodup, ownsRow_kept h.row fun g _ hl => hc.block g hl (by simp)⟩
theorem CvI.step {cl' : List Int} {ver' : Int} {text' : ByteArray} {hist' : List (List Edit)} {rd' : List Int} (h : CvI w a X v Q rb cl ver text hist rd) (hr : Rm w a' X rb cl' ver' text' hist' rd') (hx : ∀ b ∈ X, a'.heap[b]? = a.heap[b]?) : CvI w a' X v Q rb cl' ver' text' hist' rd' :=
  ⟨hr, h.inX, h.own, h.nodup, ownsRow_kept h.row fun g hg _ => hx g (h.own g hg)⟩
/-- a replica has changed -/
theorem CvI.rep (h : CvI w a X v Q rb cl ver text hist rd) {b : Nat} (hb : b ∈ Q) (hc : ChgP (fun k => k = b) a a') : CvI w a' X v Q rb cl ver text hist rd :=
  ⟨h.room.other (h.inX b hb).1 (h.inX b hb).2.1 hc, h.inX, h.own, h.nodup, ownsRow_kept h.row fun g hg hl => hc.block g hl fun e => (h.inX b hb).2.2 (by rw [hg, e])⟩
theorem CvI.at (h : CvI w a X v Q rb cl ver text hist rd) : ∃ ad cap, v = .slice ad Q.length cap ∧ Q.length ≤ cap ∧ ∀ i, i < Q.length → ∃ g, ad = some ⟨g, 0, none⟩ ∧ a.cell? ⟨g, i, none⟩ = some (.pointer (some ⟨Q.getD i 0, 0, none⟩)) := by
  have h' := h.row
  rcases h.row.2 with ⟨rfl, h0⟩ | ⟨g, cap, cur, rfl, _, _, h3, _⟩
  · exact ⟨none, 0, by rw [h0], by omega, fun i hi => by omega⟩
  · refine ⟨_, cap, rfl, h3, fun i hi => ⟨g, rfl, ?_⟩⟩
    have := h'.cells (g := g) rfl i (.pointer (some ⟨Q.getD i 0, 0, none⟩)) (by simp [ptrs, hi])
    rw [Addr.add_lit, Nat.zero_add] at this
    exact this
theorem CvI.cell {gv vc : Nat} (h : CvI w a X (.slice (some ⟨gv, 0, none⟩) 3 vc) Q rb cl ver text hist rd) (hq : Q.length = 3) (i : Nat) (hi : i < 3) : a.cell? ⟨gv, i, none⟩ = some (.pointer (some ⟨Q.getD i 0, 0, none⟩)) := by
  obtain ⟨ad, cap, hv, _, hat⟩ := h.at
  obtain ⟨g, hg, hc⟩ := hat i (by omega)
  simp only [Value.slice.injEq] at hv
  rw [hg] at hv
  simp only [Option.some.injEq, Addr.mk.injEq, and_true] at hv
  rw [hv.1]
  exact hc
theorem getD_inj {Q : List Nat} (h : Q.Nodup) {i j : Nat} (hi : i < Q.length) (hj : j < Q.length) (e : Q.getD i 0 = Q.getD j 0) : i = j := by
  rw [List.getD_eq_getElem?_getD, List.getD_eq_getElem?_getD, List.getElem?_eq_getElem hi, List.getElem?_eq_getElem hj] at e
  simp only [Option.getD_some] at e
  have hp := List.pairwise_iff_getElem.1 h
  rcases Nat.lt_trichotomy i j with hl | hl | hl
  · exact absurd e (hp i j hi hj hl)
  · exact hl
  · exact absurd e.symm (hp j i hj hi hl)
theorem getD_in {Q : List Nat} {i : Nat} (hi : i < Q.length) : Q.getD i 0 ∈ Q := by rw [List.getD_eq_getElem?_getD, List.getElem?_eq_getElem hi]; simp
theorem in_getD {Q : List Nat} {b : Nat} (h : b ∈ Q) : ∃ i, i < Q.length ∧ Q.getD i 0 = b := by
  obtain ⟨i, hi, e⟩ := List.getElem_of_mem h
  exact ⟨i, hi, by rw [List.getD_eq_getElem?_getD, List.getElem?_eq_getElem hi, ← e]; rfl⟩
theorem ptrs_snoc (Q : List Nat) (b : Nat) : ptrs (Q ++ [b]) = ptrs Q ++ [.pointer (some ⟨b, 0, none⟩)] := by simp [ptrs]
/-- one replica more -/
theorem CvI.push {a2 a3 : World} {b : Nat} {v' : Value} (h : CvI w a X v Q rb cl ver text hist rd) (hc2 : Chg [] a a2) (hb : a.heap.size ≤ b ∧ b < a2.heap.size) (hc3 : ChgP (fun k => v.ownBlock = some k) a2 a3)
    (hown : a3.ownsRow w.heap.size 36 1 v' (Q.length + 1) (ptrs Q ++ [.pointer (some ⟨b, 0, none⟩)])) (hg : ∀ k, v'.ownBlock = some k → v.ownBlock = some k ∨ a2.heap.size ≤ k) :
    ∃ X', CvI w a3 X' v' (Q ++ [b]) rb cl ver text hist rd := by
  have hs2 := hc2.size
  have hs3 := hc3.size
  have hsw := h.room.chg.size
  have hX := h.lts
  have h1 := h.room.grow (S := fun _ => False) hc2.p (fun _ h => h.elim) [b] (fun x hx => by rw [List.mem_singleton.1 hx]; exact Or.inr hb)
  have h2 := h1.grow (a' := a3) hc3 (fun k hk => ⟨List.mem_append_left _ (h.own k hk), (h.row.lt k hk).1⟩) (v'.ownBlock.toList) (fun x hx => by
    have hx' : v'.ownBlock = some x := by simpa using hx
    exact (hg x hx').elim (fun e => Or.inl (List.mem_append_left _ (h.own x e))) (fun e => Or.inr ⟨e, (hown.lt x hx').2⟩))
  refine ⟨_, h2, ?_, ?_, ?_, ?_⟩
  · intro x hx
    rcases List.mem_append.1 hx with hx | hx
    · obtain ⟨e1, e2, e3⟩ := h.inX x hx
      exact ⟨List.mem_append_left _ (List.mem_append_left _ e1), e2, fun e => (hg x e).elim e3 (fun e => by have := hX x e1; omega)⟩
    · rw [List.mem_singleton.1 hx]
      exact ⟨List.mem_append_left _ (List.mem_append_right _ (by simp)), by omega, fun e => (hg b e).elim (fun e => by have := (h.row.lt b e).2; omega) (fun e => by omega)⟩
  · intro g hg'
    exact List.mem_append_right _ (by simp [hg'])
  · refine List.nodup_append.2 ⟨h.nodup, by simp, fun x hx y hy e => ?_⟩
    rw [List.mem_singleton.1 hy] at e
    subst e
    have := hX x (h.inX x hx).1
    omega
  · rw [ptrs_snoc, List.length_append]
    exact hown
def irange (k : Nat) : List Int := (List.range k).map Int.ofNat
theorem irange_succ (k : Nat) : irange (k + 1) = irange k ++ [(k : Int)] := by simp [irange, List.range_succ]
theorem irange_facts (k : Nat) (hk : k ≤ 3) : (k : Int) ∉ irange k ∧ (irange k).Pairwise (· ≤ ·) ∧ (∀ y ∈ irange k, y < (k : Int)) ∧ (irange k).length = k := by
  rcases (by omega : k = 0 ∨ k = 1 ∨ k = 2 ∨ k = 3) with rfl | rfl | rfl | rfl <;> decide
theorem docNext_short {ver : Int} {text : ByteArray} {E : List Edit} (h : docNext ver text E = 0) : E.length ≤ 50 ∧ ver < 2147483647 := by
  unfold docNext at h
  split at h
  · rename_i h1; exact absurd h h1
  · rename_i h1
    split at h
    · cases h
    · rename_i h2
      have hv := Classical.not_not.1 h1
      unfold valL at hv
      split at hv
      · cases hv
      · omega
/-- the two others -/
theorem others (c : Nat) (hc : c < 3) : ∃ t0 t1 : Nat, (irange 3).filter (fun t => decide (t ≠ (c : Int))) = [(t0 : Int), (t1 : Int)] ∧ t0 < 3 ∧ t1 < 3 ∧ t0 ≠ t1 ∧ t0 ≠ c ∧ t1 ≠ c := by
  rcases (by omega : c = 0 ∨ c = 1 ∨ c = 2) with rfl | rfl | rfl
  · exact ⟨1, 2, by decide, by omega, by omega, by omega, by omega, by omega⟩
  · exact ⟨0, 2, by decide, by omega, by omega, by omega, by omega, by omega⟩
  · exact ⟨0, 1, by decide, by omega, by omega, by omega, by omega, by omega⟩
/-- client i has the k-th update -/
def dn (c t0 t1 i k : Nat) : Bool := decide (i = c ∨ (i = t0 ∧ 1 ≤ k) ∨ (i = t1 ∧ 2 ≤ k))
theorem dn_step {c t0 t1 : Nat} (h0 : t0 < 3) (h1 : t1 < 3) (hne : t0 ≠ t1) (hc0 : t0 ≠ c) (hc1 : t1 ≠ c) (k : Nat) (hk : k < 2) : ∃ t : Nat, [(t0 : Int), (t1 : Int)].getD k 0 = (t : Int) ∧ t < 3 ∧ t ≠ c ∧ dn c t0 t1 t k = false ∧ ∀ i, dn c t0 t1 i (k + 1) = (dn c t0 t1 i k || decide (i = t)) := by
  rcases (by omega : k = 0 ∨ k = 1) with rfl | rfl
  · refine ⟨t0, rfl, h0, hc0, ?_, fun i => ?_⟩
    · unfold dn; exact decide_eq_false (by omega)
    · unfold dn; rw [← Bool.decide_or]; exact decide_eq_decide.2 (by omega)
  · refine ⟨t1, rfl, h1, hc1, ?_, fun i => ?_⟩
    · unfold dn; exact decide_eq_false (by omega)
    · unfold dn; rw [← Bool.decide_or]; exact decide_eq_decide.2 (by omega)
theorem dn_all {c t0 t1 : Nat} (hc : c < 3) (h0 : t0 < 3) (h1 : t1 < 3) (hne : t0 ≠ t1) (hc0 : t0 ≠ c) (hc1 : t1 ≠ c) (i : Nat) (hi : i < 3) : dn c t0 t1 i 2 = true := by
  unfold dn; exact decide_eq_true (by omega)
theorem dn_none {c t0 t1 : Nat} (i : Nat) : dn c t0 t1 i 0 = decide (i = c) := by
  unfold dn; exact decide_eq_decide.2 (by omega)
end Go.Proofs.Ytihpcpcfccamoaa
