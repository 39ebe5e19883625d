/- A server in memory: rows of jobs and of messages; what changes; find, check, Pending. -/
import Derived.Test.YtiklgipcgdgkoaaDoorJsB
namespace Go.Proofs.YtiklgipcgdgkoaaDoor.Jv
open Go.RowKit Go.ChangeMaps Go.MapKept
set_option linter.unusedVariables false
set_option linter.unusedSimpArgs false
section
variable {α : Type} {enc : α → List Value} {W : Nat}
theorem fm_len (hW : ∀ x, (enc x).length = W) : ∀ xs : List α, (xs.flatMap enc).length = xs.length * W
  | [] => by simp
  | x :: xs => by rw [List.flatMap_cons, List.length_append, fm_len hW xs, hW, List.length_cons, Nat.add_mul]; omega
theorem fm_get (hW : ∀ x, (enc x).length = W) : ∀ (xs : List α) (i : Nat) (h : i < xs.length) (c : Nat), c < W → (xs.flatMap enc)[i * W + c]? = (enc xs[i])[c]?
  | [], i, h, c, _ => absurd h (by simp)
  | x :: xs, 0, h, c, hc => by
    rw [List.flatMap_cons, Nat.zero_mul, Nat.zero_add, List.getElem?_append_left (by rw [hW]; exact hc)]
    rfl
  | x :: xs, i + 1, h, c, hc => by
    rw [List.flatMap_cons, List.getElem?_append_right (by rw [hW, Nat.add_mul]; omega), hW, show (i + 1) * W + c - W = i * W + c by rw [Nat.add_mul]; omega]
    exact fm_get hW xs i (by simpa using h) c hc
theorem fm_set (hW : ∀ x, (enc x).length = W) : ∀ (xs : List α) (i : Nat) (h : i < xs.length) (c : Nat) (x' : α) (u : Value), c < W → enc x' = (enc xs[i]).set c u → (xs.flatMap enc).set (i * W + c) u = (xs.set i x').flatMap enc
  | [], i, h, c, _, _, _, _ => absurd h (by simp)
  | x :: xs, 0, h, c, x', u, hc, he => by
    rw [List.flatMap_cons, Nat.zero_mul, Nat.zero_add, List.set_append_left _ _ (by rw [hW]; exact hc), List.set_cons_zero, List.flatMap_cons, he]
    rfl
  | x :: xs, i + 1, h, c, x', u, hc, he => by
    rw [List.flatMap_cons, List.set_append_right _ _ (by rw [hW, Nat.add_mul]; omega), hW, show (i + 1) * W + c - W = i * W + c by rw [Nat.add_mul]; omega, List.set_cons_succ, List.flatMap_cons, fm_set hW xs i (by simpa using h) c x' u hc he]
theorem own_cells {w : World} {base n cap : Nat} {T : TypeId} {a : Option Addr} {xs : List α} (hW : ∀ x, (enc x).length = W) (h : w.ownsRow base T W (.slice a n cap) n (xs.flatMap enc)) (hn : n = xs.length) {i : Nat} (hi : i < xs.length) (h0 : 0 < W) :
    ∃ g, a = some ⟨g, 0, none⟩ ∧ base ≤ g ∧ g < w.heap.size ∧ ∀ c, c < W → w.cell? ⟨g, i * W + c, none⟩ = (enc xs[i])[c]? := by
  rcases h.2 with ⟨hv, hx⟩ | ⟨g, cap', cur, hv, hge, hh, _⟩
  · omega
  · cases hv
    refine ⟨g, rfl, hge, lt_of_obj hh, fun c hc => ?_⟩
    have hg := fm_get (enc := enc) hW xs i hi c hc
    have hlt : c < (enc xs[i]).length := by rw [hW]; exact hc
    have := World.ownsRow.cells h (g := g) rfl (i * W + c) ((enc xs[i])[c]) (by rw [hg, List.getElem?_eq_getElem hlt])
    rw [Addr.add_lit, Nat.zero_add] at this
    rw [this, List.getElem?_eq_getElem hlt]
end
/-- a job: its ID, is it pending, was it canceled -/
abbrev Jb := Int × Bool × Bool
def jc (j : Jb) : List Value := [.int .i64 j.1, .bool j.2.1, .bool j.2.2]
theorem jc_len (j : Jb) : (jc j).length = 3 := rfl
/-- a queued message without a body -/
structure Qm where
  k : Int
  i : Int
  c : Int
  t : ByteArray
def qc (m : Qm) : List Value := [.int .i64 m.k, .int .i64 m.i, .int .i64 m.c, .string m.t, .int .i64 0, .int .i64 0, .string ⟨#[]⟩, .slice none 0 0, .slice none 0 0]
theorem qc_len (m : Qm) : (qc m).length = 9 := rfl
/-- a server's blocks: they begin at a number, and are none of the others' -/
structure Bs where
  n : Nat
  X : Nat → Prop
instance : Coe Bs Nat := ⟨Bs.n⟩
/-- a server in memory -/
structure Srv (w : World) (Ba : Bs) (Sb : Nat) (ja : Option Addr) (Jl jn : Nat) (qa : Option Addr) (Ql qn : Nat) (js : List Jb) (qs : List Qm) : Prop where
  box : w.heap[Sb]? = some (.cells #[.slice ja Jl jn, .slice qa Ql qn] 73 (0, 0))
  jobs : w.ownsRow Ba 80 3 (.slice ja Jl jn) Jl (js.flatMap jc)
  queue : w.ownsRow Ba 27 9 (.slice qa Ql qn) Ql (qs.flatMap qc)
  jl : Jl = js.length
  ql : Ql = qs.length
  sb : Sb < Ba
  base : Ba ≤ w.heap.size
  xj : ∀ g, (Value.slice ja Jl jn).ownBlock = some g → ¬ Ba.X g
  xq : ∀ g, (Value.slice qa Ql qn).ownBlock = some g → ¬ Ba.X g
  xl : ∀ g, Ba.X g → g < w.heap.size
theorem xnone {X : Nat → Prop} (n c : Nat) : ∀ g, (Value.slice none n c).ownBlock = some g → ¬ X g := fun g h => by cases h
/-- a block that holds a job or a message -/
def JQ (w : World) (g : Nat) : Prop := ∃ cs T fr, w.heap[g]? = some (.cells cs T fr) ∧ (T = 80 ∨ T = 27)
/-- what a server's calls may change -/
def SF (base : Bs) (sb : Nat) (w : World) (g : Nat) : Prop := g = sb ∨ (base ≤ g ∧ JQ w g ∧ ¬ base.X g)
theorem sf_trans {base : Bs} {sb : Nat} {w w1 w2 : World} (h : ChgP (SF base sb w) w w1) (h' : ChgP (SF base sb w1) w1 w2) : ChgP (SF base sb w) w w2 := by
  refine ⟨h'.os.trans h.os, h'.tape.trans h.tape, h'.output.trans h.output, Nat.le_trans h.size h'.size, fun k hk hn => ?_⟩
  have h1 := h.block k hk hn
  refine (h'.block k (Nat.lt_of_lt_of_le hk h.size) fun hs => hn ?_).trans h1
  rcases hs with hs | ⟨hge, ⟨cs, T, fr, hb, hT⟩, hx⟩
  · exact Or.inl hs
  · exact Or.inr ⟨hge, ⟨cs, T, fr, by rw [← h1]; exact hb, hT⟩, hx⟩
theorem sf_new {base : Bs} {sb : Nat} {w w1 : World} (h : Chg [] w w1) : ChgP (SF base sb w) w w1 := h.p
theorem own_type {w : World} {base n cap sz : Nat} {T : TypeId} {a : Option Addr} {xs : List Value} (h : w.ownsRow base T sz (.slice a n cap) n xs) {g : Nat} (hg : (Value.slice a n cap).ownBlock = some g) : ∃ cs fr, w.heap[g]? = some (.cells cs T fr) := by
  rcases h.2 with ⟨hv, hx⟩ | ⟨g', cap', cur, hv, hge, hh, _⟩
  · cases hv; cases hg
  · cases hv
    simp only [Value.ownBlock, Option.some.injEq] at hg
    subst hg
    exact ⟨_, _, hh⟩
section
variable {w w' : World} {base : Bs} {sb jl jn ql qn : Nat} {ja qa : Option Addr} {js : List Jb} {qs : List Qm}
theorem Srv.new (h : Srv w base sb ja jl jn qa ql qn js qs) (hc : Chg [] w w') : Srv w' base sb ja jl jn qa ql qn js qs :=
  ⟨(hc.block sb (lt_of_obj h.box) (by simp)).trans h.box, ownsRow_kept h.jobs (fun g hg hl => hc.block g hl (by simp)), ownsRow_kept h.queue (fun g hg hl => hc.block g hl (by simp)), h.jl, h.ql, h.sb, Nat.le_trans h.base hc.size, h.xj, h.xq, fun g hg => Nat.lt_of_lt_of_le (h.xl g hg) hc.size⟩
theorem Srv.c0 (h : Srv w base sb ja jl jn qa ql qn js qs) : w.cell? ⟨sb, 0, none⟩ = some (.slice ja jl jn) := cell_of_heap h.box rfl
theorem Srv.c1 (h : Srv w base sb ja jl jn qa ql qn js qs) : w.cell? ⟨sb, 1, none⟩ = some (.slice qa ql qn) := cell_of_heap h.box rfl
theorem Srv.fz (h : Srv w base sb ja jl jn qa ql qn js qs) (i : Nat) : w.frozen? ⟨sb, i, none⟩ = false := frozen_of_heap (i := i) h.box
theorem Srv.job (h : Srv w base sb ja jl jn qa ql qn js qs) {i : Nat} (hi : i < js.length) : ∃ g, ja = some ⟨g, 0, none⟩ ∧ base ≤ g ∧ g < w.heap.size ∧ w.cell? ⟨g, i * 3, none⟩ = some (.int .i64 js[i].1) ∧ w.cell? ⟨g, i * 3 + 1, none⟩ = some (.bool js[i].2.1) ∧ w.cell? ⟨g, i * 3 + 2, none⟩ = some (.bool js[i].2.2) ∧ jl ≤ jn := by
  obtain ⟨g, hg, h1, h2, h3⟩ := own_cells jc_len h.jobs h.jl hi (by decide)
  refine ⟨g, hg, h1, h2, h3 0 (by decide), h3 1 (by decide), h3 2 (by decide), ?_⟩
  rcases h.jobs.2 with ⟨hv, hx⟩ | ⟨g', cap', cur, hv, hge, hh, hnc, _⟩
  · have := h.jl; omega
  · cases hv; omega
end
end Go.Proofs.YtiklgipcgdgkoaaDoor.Jv
