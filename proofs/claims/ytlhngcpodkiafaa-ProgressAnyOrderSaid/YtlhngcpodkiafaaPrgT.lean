/- Adding the next chunk; what the law's loop keeps. -/
import Derived.Test.YtlhngcpodkiafaaPrgR
namespace Go.Proofs.Ytlhngcpodkiafaa
open Go.RowKit
set_option linter.unusedVariables false
def AddNew (pa bo : Nat) (tok : Int) (q : Nat) (N : Nat) (st : Option (Nat × List CE)) (xs : List Int) (w : World) (e : Ending) (w' : World) : Prop :=
  ∃ bi a' cap' blk, e = .returned (.tuple #[.bool true, .int .i64 0]) ∧ AsAt w' pa bo tok (some (bi, ups (ste st) (q : Int) ⟨decide (q + 1 = N), a', cap', xs⟩)) ∧ (∃ arr clock, w.heap[blk]? = some (.map arr clock)) ∧ (blk = bo ∨ ∃ s, st = some s ∧ s.1 = blk) ∧ ((∃ s, st = some s ∧ s.1 = bi) ∨ w.heap.size ≤ bi) ∧ Chg [blk] w w'
theorem add_new (pa bo : Nat) (tok : Int) (q N : Nat) (X : Nat → List Int) (P : List Nat) (st : Option (Nat × List CE)) (v : Value) (xs : List Int) (w : World) (h : AsAt w pa bo tok st) (hA : AI N X P (ste st)) (hq : q ∈ P) (hN : N ≤ 1000)
    (ht0 : 0 ≤ tok) (ht : tok ≤ 9223372036854775807) (hI : Ints w v xs) (hn : xs.length ≤ 1000) :
    Calls Try.prog 11 #[.pointer (some ⟨pa, 0, none⟩), .agg #[.int .i64 tok, .int .i64 (q : Nat), .bool (decide (q + 1 = N)), v]] w (AddNew pa bo tok q N st xs w) := by
  have hlt := hA.lt q hq
  obtain ⟨a, cap, rfl⟩ := hI.shape
  cases st with
  | none =>
    refine (add_first pa bo tok q _ a cap xs w h ht0 ht (by omega) (by omega) hI hn).mono ?_
    rintro e w' ⟨bi, a', cap', he, hA', hb, hc⟩
    obtain ⟨arr, clock, hbo, _⟩ := h.2
    exact ⟨bi, a', cap', bo, he, hA', ⟨arr, clock, hbo⟩, Or.inl rfl, Or.inr hb, hc⟩
  | some s =>
    obtain ⟨bi, es⟩ := s
    refine (add_more pa bo bi tok q es _ a cap xs w h ht0 ht (by omega) (by omega) (fun p hp => by have := hA.bd p hp; omega) (hA.inP q hq) (hA.ok hq) hI hn).mono ?_
    rintro e w' ⟨a', cap', he, hA', hc⟩
    obtain ⟨arr, clock, hbo, _⟩ := h.2.2.1
    exact ⟨bi, a', cap', bi, he, hA', ⟨arr, clock, hbo⟩, Or.inr ⟨_, rfl, rfl⟩, Or.inl ⟨_, rfl, rfl⟩, hc⟩
/-- the loop: P are to come -/
structure AL (N : Nat) (X : Nat → List Int) (us : Nat → Value) (tok : Int) (pa bo : Nat) (w : World) (P : List Nat) (st : Option (Nat × List CE)) (v : Value) (wr : World) : Prop where
  inv : AI N X P (ste st)
  asm : AsAt wr pa bo tok st
  row : wr.ownsRow w.heap.size 39 4 v P.length (flatP tok N us P)
  ints : ∀ q, q < N → Ints wr (us q) (X q)
  new : ∀ s, st = some s → w.heap.size ≤ s.1
  bo : w.heap.size ≤ bo
  chg : Chg [] w wr
/-- behind the two calls of Add -/
theorem AL.added {N : Nat} {X : Nat → List Int} {us : Nat → Value} {tok : Int} {pa bo : Nat} {w wr w1 w2 : World} {P : List Nat} {st : Option (Nat × List CE)} {v : Value} (h : AL N X us tok pa bo w P st v wr) {k : Nat} (hk : k < P.length) {bi : Nat} {a' : Option Addr} {cap' blk : Nat}
    (hc0 : Chg [] wr w1) (hA : AsAt w2 pa bo tok (some (bi, ups (ste st) (P[k] : Nat) ⟨decide (P[k] + 1 = N), a', cap', X P[k]⟩))) (hm : ∃ arr clock, w1.heap[blk]? = some (.map arr clock)) (hblk : blk = bo ∨ ∃ s, st = some s ∧ s.1 = blk) (hbi : (∃ s, st = some s ∧ s.1 = bi) ∨ w1.heap.size ≤ bi) (hc : Chg [blk] w1 w2) :
    w2.ownsRow w.heap.size 39 4 v P.length (flatP tok N us P) ∧ (∀ q, q < N → Ints w2 (us q) (X q)) ∧ w.heap.size ≤ bi ∧ Chg [] w w2 ∧ AI N X (P.take k ++ P.drop (k + 1)) (ups (ste st) (P[k] : Nat) ⟨decide (P[k] + 1 = N), a', cap', X P[k]⟩) := by
  have hb1 : w.heap.size ≤ blk := by
    rcases hblk with rfl | ⟨s, hs, rfl⟩
    · exact h.bo
    · exact h.new s hs
  have h1 := h.chg.trans hc0
  refine ⟨ownsRow_kept (ownsRow_kept h.row fun g hg hl => hc0.block g hl (by simp)) fun g hg hl => hc.block g hl (fun hmem => ?_), fun q hq => ((h.ints q hq).same hc0).kept hc (fun k hk => ?_), ?_, h1.comp hc (fun k hk => ?_), h.inv.step hk _ _⟩
  · obtain rfl : g = blk := by simpa using hmem
    obtain ⟨arr, clock, hmb⟩ := hm
    have hr := ownsRow_kept (w' := w1) h.row fun g hg hl => hc0.block g hl (by simp)
    rcases hr.2 with ⟨hv, _⟩ | ⟨g', cap'', cur, hv, _, hgb, _⟩
    · rw [hv] at hg; simp [Value.ownBlock] at hg
    · rw [hv] at hg
      obtain rfl : g' = g := by simpa [Value.ownBlock] using hg
      rw [hmb] at hgb; cases hgb
  · obtain rfl : k = blk := by simpa using hk
    obtain ⟨arr, clock, hmb⟩ := hm
    exact NotE.of_heap hmb (by simp)
  · rcases hbi with ⟨s, hs, rfl⟩ | hbi
    · exact h.new s hs
    · have := h1.size; omega
  · obtain rfl : k = blk := by simpa using hk
    exact Or.inr hb1
theorem flatP_one (tok : Int) (N : Nat) (us : Nat → Value) (P : List Nat) (h : ∀ q ∈ P, (us q).oneCell' = true) : ∀ u ∈ flatP tok N us P, u.oneCell' = true := by
  intro u hu
  obtain ⟨q, hq, hm⟩ := List.mem_flatMap.1 hu
  simp only [List.mem_cons, List.not_mem_nil, or_false] at hm
  rcases hm with rfl | rfl | rfl | rfl
  · rfl
  · rfl
  · rfl
  · exact h q hq
theorem Ints.one {w : World} {v : Value} {xs : List Int} (h : Ints w v xs) : v.oneCell' = true := by
  obtain ⟨a, c, rfl⟩ := h.shape
  rfl
/-- behind the round -/
theorem AL.next {N : Nat} {X : Nat → List Int} {us : Nat → Value} {tok : Int} {pa bo : Nat} {w w9 w10 w11 w12 : World} {P' : List Nat} {bi : Nat} {es : List CE} {v11 v12 : Value} {k n : Nat} {ns L : List Value} (hai : AI N X P' es) (hA : AsAt w9 pa bo tok (some (bi, es))) (hbi : w.heap.size ≤ bi) (hbo : w.heap.size ≤ bo) (hints : ∀ q, q < N → Ints w9 (us q) (X q)) (h9 : Chg [] w w9) (h10 : Chg [] w9 w10)
    (h11 : Chg [] w10.drew w11) (hown : w11.ownsRow w10.heap.size 39 4 v11 k ns) (hgr : w11.grownBy w12 v11.ownBlock) (hrow : w12.ownsRow w10.heap.size 39 4 v12 n L) (hn : n = P'.length) (hL : L = flatP tok N us P') :
    AL N X us tok pa bo w P' (some (bi, es)) v12 w12 := by
  have hc : Chg [] w9 w12 := (h10.trans (((Chg.refl [] w10).drew).new h11)).grown hgr (fun g hg => Or.inr (by have := (ownsRow_ge hown hg).1; have := h10.size; omega))
  subst hn hL
  exact ⟨hai, hA.same hc, ownsRow_base hrow (Nat.le_trans h9.size h10.size), fun q hq => (hints q hq).same hc, fun s hs => by cases hs; exact hbi, hbo, h9.trans hc⟩
/-- how long a slice is -/
def lenV : Value → Nat
  | .slice _ n _ => n
  | _ => 0
theorem len_flatMap_le (X : Nat → List Int) (l : List Nat) (q : Nat) (h : q ∈ l) : (X q).length ≤ (l.flatMap X).length := by
  induction l with
  | nil => cases h
  | cons a t ih =>
    rw [List.flatMap_cons, List.length_append]
    rcases List.mem_cons.1 h with rfl | h
    · omega
    · have := ih h; omega
theorem catTo_eq (cs : Nat → CQ) (X : Nat → List Int) (N : Nat) (h : ∀ q, q < N → (cs q).xs = X q) : ∀ k, k ≤ N → catTo cs k = (List.range k).flatMap X := by
  intro k
  induction k with
  | zero => intro _; rfl
  | succ k ih => intro hk; rw [catTo_succ, ih (by omega), h k (by omega), List.range_succ, List.flatMap_append]; simp
theorem len_catTo (cs : Nat → CQ) : ∀ N k, k ≤ N → (catTo cs k).length ≤ (catTo cs N).length := by
  intro N
  induction N with
  | zero => intro k hk; obtain rfl : k = 0 := by omega
            exact Nat.le_refl _
  | succ N ih =>
    intro k hk
    by_cases h : k = N + 1
    · subst h; exact Nat.le_refl _
    · have := ih k (by omega)
      rw [catTo_succ, List.length_append]; omega
end Go.Proofs.Ytlhngcpodkiafaa
