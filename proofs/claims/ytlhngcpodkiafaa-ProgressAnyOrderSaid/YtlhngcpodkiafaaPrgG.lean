/- The assembler of partial results: its state; the bounds of what has come. -/
import Derived.Test.YtlhngcpodkiafaaPrgD
import Derived.Test.YtlhngcpodkiafaaRange
namespace Go.Proofs.Ytlhngcpodkiafaa
open Go.RowKit Go.ChangeMaps
open Go.Maps (Keyed)
set_option linter.unusedVariables false
def In64 (n : Int) : Prop := -9223372036854775808 ≤ n ∧ n ≤ 9223372036854775807
def ik (n : Int) : Value := .int .i64 n
theorem ik_inj (x y : Int) (h : ik x = ik y) : x = y := by simpa [ik] using h
theorem ikeyed : Keyed Try.prog 3 := Maps.int_keyed Try.underlying3
theorem ikOk {n : Int} (h : In64 n) : KeyOk Try.prog 3 (ik n) := ⟨_, Maps.keyOf_int_mk Try.underlying3 (WalkArith.wf_i64 h)⟩
/-- a chunk that is stored: is it the last, its slice, its ints -/
structure CQ where
  last : Bool
  a : Option Addr
  cap : Nat
  xs : List Int
def CQ.val (tok q : Int) (c : CQ) : Value := .agg #[.int .i64 tok, .int .i64 q, .bool c.last, .slice c.a c.xs.length c.cap]
abbrev CE := Int × CQ
def cvals (tok : Int) (es : List CE) : List (Int × Value) := es.map fun p => (p.1, p.2.val tok p.1)
theorem aget_cvals (tok : Int) (es : List CE) (q : Int) : aget (cvals tok es) q = (aget es q).map (CQ.val tok q) := by
  induction es with
  | nil => rfl
  | cons p r ih =>
    show aget ((p.1, p.2.val tok p.1) :: cvals tok r) q = _
    rw [aget_cons, aget_cons, ih]
    by_cases h : p.1 = q
    · rw [if_pos h, if_pos h]; simp [h]
    · rw [if_neg h, if_neg h]
theorem ups_cvals (tok : Int) (es : List CE) (q : Int) (c : CQ) : ups (cvals tok es) q (c.val tok q) = cvals tok (ups es q c) := by
  induction es with
  | nil => rfl
  | cons p r ih =>
    show ups ((p.1, p.2.val tok p.1) :: cvals tok r) q _ = _
    unfold ups
    by_cases h : p.1 = q
    · rw [if_pos h, if_pos h]; rfl
    · rw [if_neg h, if_neg h, ih]; rfl
theorem cval_zero (w : World) : (zeroValue 53).run Try.prog w = .ok (.map none) w := by kernel_rfl
def czero : Value := .agg #[.int .i64 0, .int .i64 0, .bool false, .slice none 0 0]
theorem chunk_zero (w : World) : (zeroValue 39).run Try.prog w = .ok czero w := by kernel_rfl
/-- the assembler: nothing has come, or the chunks es of the token have -/
def AsAt (w : World) (pa bo : Nat) (tok : Int) : Option (Nat × List CE) → Prop
  | none => w.heap[pa]? = some (.cells #[.map (some bo)] 50 (0, 0)) ∧ MapAt Try.prog 3 ik w bo []
  | some (bi, es) => w.heap[pa]? = some (.cells #[.map (some bo)] 50 (0, 0)) ∧ MapAt Try.prog 3 ik w bo [(tok, .map (some bi))] ∧ MapAt Try.prog 3 ik w bi (cvals tok es) ∧ bi ≠ bo ∧
      ∀ p ∈ es, Ints w (.slice p.2.a p.2.xs.length p.2.cap) p.2.xs
theorem AsAt.kept {w w' : World} {pa bo : Nat} {tok : Int} {st : Option (Nat × List CE)} {S : List Nat} (h : AsAt w pa bo tok st) (hc : Chg S w w') (h1 : pa ∉ S) (h2 : bo ∉ S) (h3 : ∀ s, st = some s → s.1 ∉ S) (h4 : ∀ k ∈ S, NotE 3 w k) : AsAt w' pa bo tok st := by
  cases st with
  | none => exact ⟨(hc.block pa (lt_of_obj h.1) h1).trans h.1, h.2.kept hc h2⟩
  | some s =>
    obtain ⟨bi, es⟩ := s
    obtain ⟨k1, k2, k3, k4, k5⟩ := h
    exact ⟨(hc.block pa (lt_of_obj k1) h1).trans k1, k2.kept hc h2, k3.kept hc (h3 _ rfl), k4, fun p hp => (k5 p hp).kept hc h4⟩
theorem AsAt.same {w w' : World} {pa bo : Nat} {tok : Int} {st : Option (Nat × List CE)} (h : AsAt w pa bo tok st) (hc : Chg [] w w') : AsAt w' pa bo tok st := h.kept hc (by simp) (by simp) (by simp) (by simp)
theorem AsAt.blk {w : World} {pa bo : Nat} {tok : Int} {st : Option (Nat × List CE)} (h : AsAt w pa bo tok st) : w.heap[pa]? = some (.cells #[.map (some bo)] 50 (0, 0)) := by
  cases st with
  | none => exact h.1
  | some s => exact h.1
def stv : Option (Nat × List CE) → Option Nat
  | none => none
  | some s => some s.1
def ste : Option (Nat × List CE) → List CE
  | none => []
  | some s => s.2
/-- looking the token up -/
theorem AsAt.look {w : World} {pa bo : Nat} {tok : Int} {st : Option (Nat × List CE)} (h : AsAt w pa bo tok st) (ht : In64 tok) : (Instr.lookup 48 (.map (some bo)) (.int .i64 tok) false).run Try.prog w = .ok (.map (stv st)) w := by
  cases st with
  | none => exact h.2.lookup ikeyed ik_inj Try.underlying48 (x := tok) (ikOk ht) (cval_zero w) false
  | some s =>
    have := h.2.1.lookup ikeyed ik_inj Try.underlying48 (x := tok) (ikOk ht) (cval_zero w) false
    rw [aget_cons, if_pos rfl] at this
    exact this
set_option maxHeartbeats 400000 in
theorem newAssembler_any (tok : Int) (w : World) :
    Calls Try.prog 9 #[] w fun e w' => e = .returned (.pointer (some ⟨w.heap.size + 1, 0, none⟩)) ∧ AsAt w' (w.heap.size + 1) w.heap.size tok none ∧ Chg [] w w' := by
  have hmm := @run_makeMap Try.prog
  go_enter Try.func9, Try.ntmps9
  go_wp2
  go_ret
  refine ⟨rfl, ⟨?_, ?_⟩, ((Chg.refl [] w).alloc _).alloc _⟩
  · rw [show w.heap.size + 1 = (w.alloc (.map #[] 0)).heap.size from by simp, heap_alloc_new]
  · exact (MapAt.made Try.prog 3 ik w).kept ((Chg.refl [] _).alloc _) (by simp)
/-- the last chunk's number, or -1; the largest number, or -1 -/
def Bd (es : List CE) (f l : Int) : Prop :=
  ((f = -1 ∧ ∀ p ∈ es, p.2.last = false) ∨ ∃ c, (f, c) ∈ es ∧ c.last = true) ∧ (∀ p ∈ es, p.1 ≤ l) ∧ ((l = -1 ∧ es = []) ∨ ∃ c, (l, c) ∈ es)
def BdRel (es rest : List CE) (f l : Int) : Prop :=
  ((f = -1 ∧ ∀ p ∈ es, p ∈ rest ∨ p.2.last = false) ∨ ∃ c, (f, c) ∈ es ∧ c.last = true) ∧ (∀ p ∈ es, p ∈ rest ∨ p.1 ≤ l) ∧ (l = -1 ∧ rest = es ∨ ∃ c, (l, c) ∈ es)
theorem BdRel.start (es : List CE) : BdRel es es (-1) (-1) := ⟨Or.inl ⟨rfl, fun p h => Or.inl h⟩, fun p h => Or.inl h, Or.inl ⟨rfl, rfl⟩⟩
theorem BdRel.fin {es : List CE} {f l : Int} (h : BdRel es [] f l) : Bd es f l := by
  obtain ⟨h1, h2, h3⟩ := h
  refine ⟨h1.imp (fun ⟨a, b⟩ => ⟨a, fun p hp => (b p hp).resolve_left (by simp)⟩) id, fun p hp => (h2 p hp).resolve_left (by simp), h3.imp (fun ⟨a, b⟩ => ⟨a, b.symm⟩) id⟩
theorem BdRel.step {es rest rest' : List CE} {f l q : Int} {c : CQ} (h : BdRel es rest f l) (hp : rest.Perm ((q, c) :: rest')) (hm : (q, c) ∈ es) (hl : -1 ≤ l) (hq : 0 ≤ q) : BdRel es rest' (if c.last then q else f) (max l q) := by
  obtain ⟨h1, h2, h3⟩ := h
  have hmem : ∀ p, p ∈ rest → p = (q, c) ∨ p ∈ rest' := fun p hpr => List.mem_cons.1 (hp.mem_iff.1 hpr)
  refine ⟨?_, fun p hpe => ?_, Or.inr ?_⟩
  · cases hc : c.last
    · simp only [Bool.false_eq_true, if_false]
      refine h1.imp (fun ⟨a, b⟩ => ⟨a, fun p hpe => (b p hpe).elim (fun hr => ?_) Or.inr⟩) id
      rcases hmem p hr with rfl | hr
      · exact Or.inr hc
      · exact Or.inl hr
    · simp only [if_true]
      exact Or.inr ⟨c, hm, hc⟩
  · rcases h2 p hpe with hr | hle
    · rcases hmem p hr with rfl | hr
      · exact Or.inr (by simp; omega)
      · exact Or.inl hr
    · exact Or.inr (by omega)
  · by_cases hlq : l ≤ q
    · rw [Int.max_eq_right hlq]; exact ⟨c, hm⟩
    · rw [Int.max_eq_left (by omega)]
      rcases h3 with ⟨h, _⟩ | h
      · omega
      · exact h
end Go.Proofs.Ytlhngcpodkiafaa
