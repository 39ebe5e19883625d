/- Plain ground: what a call may change, by a predicate on blocks; slices read by a function of the index; slices of a call's own. -/
import Derived.Test.YticfigfipbcmhaaGreatDoorBase
import Derived.Deep.OwnRows
import Derived.Maps.AppendAt
import Derived.Deep.AppendLies
import Derived.Deep.QuietTactic
import Derived.BigQuiet
import Derived.Deep.RegionHeld3
import Derived.Deep.DeepFit
import Derived.Deep.LoopGhost
namespace Go.Proofs.YticfigfipbcmhaaGreatDoor
open Go.RowKit
set_option linter.unusedVariables false
/-- Of the blocks that were there, those of 'S' alone may have changed. -/
structure ChgP (S : Nat → Prop) (w w' : World) : Prop where
  os : w'.os = w.os
  tape : w'.tape = w.tape
  output : w'.output = w.output
  size : w.heap.size ≤ w'.heap.size
  block : ∀ k, k < w.heap.size → ¬ S k → w'.heap[k]? = w.heap[k]?
theorem ChgP.refl (S : Nat → Prop) (w : World) : ChgP S w w := ⟨rfl, rfl, rfl, Nat.le_refl _, fun _ _ _ => rfl⟩
theorem ChgP.comp {S T : Nat → Prop} {a b c : World} (h : ChgP S a b) (k : ChgP T b c) (hT : ∀ x, T x → S x ∨ a.heap.size ≤ x) : ChgP S a c :=
  ⟨k.os.trans h.os, k.tape.trans h.tape, k.output.trans h.output, Nat.le_trans h.size k.size, fun i hi hn =>
    (k.block i (Nat.lt_of_lt_of_le hi h.size) (fun hm => (hT i hm).elim hn (fun hs => absurd hi (Nat.not_lt.2 hs)))).trans (h.block i hi hn)⟩
theorem ChgP.trans {S : Nat → Prop} {a b c : World} (h : ChgP S a b) (k : ChgP S b c) : ChgP S a c := h.comp k fun _ hx => Or.inl hx
theorem ChgP.mono {S T : Nat → Prop} {a b : World} (h : ChgP S a b) (hT : ∀ x, S x → T x) : ChgP T a b := (ChgP.refl T a).comp h fun x hx => Or.inl (hT x hx)
theorem Chg.toP {S : List Nat} {a b : World} (h : Chg S a b) : ChgP (fun k => k ∈ S) a b := ⟨h.os, h.tape, h.output, h.size, h.block⟩
theorem ChgP.toL {S : List Nat} {a b : World} (h : ChgP (fun k => k ∈ S) a b) : Chg S a b := ⟨h.os, h.tape, h.output, h.size, h.block⟩
theorem Chg.p {S : Nat → Prop} {a b : World} (h : Chg [] a b) : ChgP S a b := h.toP.mono (by simp)
theorem ChgP.new {S : Nat → Prop} {a b c : World} (h : ChgP S a b) (k : Chg [] b c) : ChgP S a c := h.trans k.p
theorem ChgP.drew {S : Nat → Prop} {a w : World} (h : ChgP S a w) : ChgP S a w.drew := ⟨h.os, h.tape, h.output, h.size, h.block⟩
theorem ChgP.drewN {S : Nat → Prop} {a w : World} (h : ChgP S a w) (n : Nat) : ChgP S a (w.drewN n) := ⟨h.os, h.tape, h.output, h.size, h.block⟩
theorem ChgP.alloc {S : Nat → Prop} {a w : World} (h : ChgP S a w) (o : Obj) : ChgP S a (w.alloc o) := h.new ((Chg.refl [] w).alloc o)
theorem ChgP.setCell {S : Nat → Prop} {a w : World} (h : ChgP S a w) {p : Addr} (hp : S p.block ∨ a.heap.size ≤ p.block) (u : Value) : ChgP S a (w.setCell p u) :=
  h.comp (T := fun k => k = p.block) (((Chg.refl [p.block] w).setCell (Or.inl (by simp)) u).toP.mono (by simp)) (by rintro x rfl; exact hp)
theorem ChgP.setBlock {S : Nat → Prop} {a w : World} (h : ChgP S a w) {b : Nat} (hp : S b ∨ a.heap.size ≤ b) (o : Obj) : ChgP S a (ChangeMaps.setBlock w b o) :=
  h.comp (T := fun k => k = b) (((Chg.refl [b] w).setBlock (Or.inl (by simp)) o).toP.mono (by simp)) (by rintro x rfl; exact hp)
theorem ChgP.grown {S : Nat → Prop} {a w w' : World} {row : Option Nat} (h : ChgP S a w) (hg : w.grownBy w' row) (hr : ∀ k, row = some k → S k ∨ a.heap.size ≤ k) : ChgP S a w' :=
  h.comp (T := fun k => row = some k) ⟨hg.os, hg.tape, hg.output, hg.size, fun k hk hn => hg.block k hk (fun e => hn e.symm)⟩ hr
theorem ChgP.cell {S : Nat → Prop} {a w : World} (h : ChgP S a w) {p : Addr} (hp : p.block < a.heap.size) (hn : ¬ S p.block) : w.cell? p = a.cell? p := World.cell?_of_block (w := a) (h.block p.block hp hn)
theorem ChgP.frozen {S : Nat → Prop} {a w : World} (h : ChgP S a w) {p : Addr} (hp : p.block < a.heap.size) (hn : ¬ S p.block) : w.frozen? p = a.frozen? p := World.frozen?_of_block (w := a) (h.block p.block hp hn)
theorem ChgP.below {S : Nat → Prop} {B : Nat} {a w : World} (h : ChgP S a w) (hB : B ≤ a.heap.size) (hS : ∀ k, S k → B ≤ k) : Below B a w :=
  ⟨h.os, h.tape, h.output, h.size, fun k hk => h.block k (by omega) (fun hm => by have := hS k hm; omega)⟩
/-- a slice of n elements of sz cells, the j-th of them read by rd, in a block of which p holds -/
def SlR {α : Type} (p : Nat → Prop) (sz : Nat) (rd : World → Addr → α → Prop) (w : World) (v : Value) (xs : List α) : Prop :=
  ∃ a cap, v = .slice a xs.length cap ∧ xs.length ≤ cap ∧ cap ≤ maxLen ∧ (0 < xs.length → ∃ g off, a = some ⟨g, off, none⟩ ∧ p g ∧ ∀ j (h : j < xs.length), rd w ⟨g, off + j * sz, none⟩ xs[j])
theorem SlR.imp {α : Type} {p q : Nat → Prop} {sz : Nat} {rd rd' : World → Addr → α → Prop} {w w' : World} {v : Value} {xs : List α} (h : SlR p sz rd w v xs) (hp : ∀ g, p g → q g) (hr : ∀ ad x, p ad.block → rd w ad x → rd' w' ad x) : SlR q sz rd' w' v xs := by
  obtain ⟨a, cap, rfl, h1, h2, h3⟩ := h
  refine ⟨a, cap, rfl, h1, h2, fun h0 => ?_⟩
  obtain ⟨g, off, rfl, hg, hc⟩ := h3 h0
  exact ⟨g, off, rfl, hp g hg, fun j hj => hr _ _ hg (hc j hj)⟩
theorem SlR.shape {α : Type} {p : Nat → Prop} {sz : Nat} {rd : World → Addr → α → Prop} {w : World} {v : Value} {xs : List α} (h : SlR p sz rd w v xs) : ∃ a cap, v = .slice a xs.length cap ∧ xs.length ≤ maxLen ∧ xs.length ≤ cap := by
  obtain ⟨a, cap, h, h1, h2, _⟩ := h
  exact ⟨a, cap, h, by omega, h1⟩
theorem SlR.at {α : Type} {p : Nat → Prop} {sz : Nat} {rd : World → Addr → α → Prop} {w : World} {a : Option Addr} {n cap : Nat} {xs : List α} (h : SlR p sz rd w (.slice a n cap) xs) (i : Nat) (hi : i < xs.length) (d : α) :
    ∃ g off, a = some ⟨g, off, none⟩ ∧ p g ∧ rd w ⟨g, off + i * sz, none⟩ (xs.getD i d) := by
  obtain ⟨a', cap', hv, h1, h2, h3⟩ := h
  simp only [Value.slice.injEq] at hv
  obtain ⟨rfl, _, _⟩ := hv
  obtain ⟨g, off, rfl, hg, hc⟩ := h3 (by omega)
  refine ⟨g, off, rfl, hg, ?_⟩
  have := hc i hi
  rw [List.getD_eq_getElem?_getD, List.getElem?_eq_getElem hi]
  exact this
theorem SlR.nil {α : Type} (p : Nat → Prop) (sz : Nat) (rd : World → Addr → α → Prop) (w : World) : SlR p sz rd w (.slice none 0 0) [] := ⟨none, 0, rfl, by simp, by simp, fun h => absurd h (by simp)⟩
/-- one int, read -/
def rdInt (w : World) (ad : Addr) (x : Int) : Prop := w.cell? ad = some (.int .i64 x)
def IntsP (p : Nat → Prop) (w : World) (v : Value) (xs : List Int) : Prop := SlR p 1 rdInt w v xs
theorem IntsP.kept {p : Nat → Prop} {S : Nat → Prop} {w w' : World} {v : Value} {xs : List Int} (h : IntsP p w v xs) (hc : ChgP S w w') (hS : ∀ k, p k → ¬ S k) : IntsP p w' v xs :=
  SlR.imp h (fun _ h => h) fun ad x hp hx => (hc.cell (lt_of_cell hx) (hS _ hp)).trans hx
theorem IntsP.imp {p q : Nat → Prop} {w : World} {v : Value} {xs : List Int} (h : IntsP p w v xs) (hp : ∀ g, p g → q g) : IntsP q w v xs := SlR.imp h hp fun _ _ _ h => h
theorem IntsP.cell {p : Nat → Prop} {w : World} {a : Option Addr} {n cap : Nat} {xs : List Int} (h : IntsP p w (.slice a n cap) xs) (i : Nat) (hi : i < xs.length) :
    ∃ g off, a = some ⟨g, off, none⟩ ∧ p g ∧ w.cell? ⟨g, off + i, none⟩ = some (.int .i64 (xs.getD i 0)) := by
  obtain ⟨g, off, rfl, hp, h⟩ := SlR.at h i hi 0
  exact ⟨g, off, rfl, hp, by rw [Nat.mul_one] at h; exact h⟩
/-- three ints in a row, read -/
abbrev I3 := Int × Int × Int
def rdI3 (w : World) (ad : Addr) (x : I3) : Prop := w.cell? ad = some (.int .i64 x.1) ∧ w.cell? ⟨ad.block, ad.off + 1, none⟩ = some (.int .i64 x.2.1) ∧ w.cell? ⟨ad.block, ad.off + 2, none⟩ = some (.int .i64 x.2.2)
theorem rdI3.kept {S : Nat → Prop} {w w' : World} {ad : Addr} {x : I3} (h : rdI3 w ad x) (hc : ChgP S w w') (hS : ¬ S ad.block) : rdI3 w' ad x := by
  have l := lt_of_cell h.1
  exact ⟨(hc.cell l hS).trans h.1, (hc.cell (p := ⟨ad.block, ad.off + 1, none⟩) l hS).trans h.2.1, (hc.cell (p := ⟨ad.block, ad.off + 2, none⟩) l hS).trans h.2.2⟩
def I3s (p : Nat → Prop) (w : World) (v : Value) (xs : List I3) : Prop := SlR p 3 rdI3 w v xs
theorem I3s.kept {p : Nat → Prop} {S : Nat → Prop} {w w' : World} {v : Value} {xs : List I3} (h : I3s p w v xs) (hc : ChgP S w w') (hS : ∀ k, p k → ¬ S k) : I3s p w' v xs :=
  SlR.imp h (fun _ h => h) fun ad x hp hx => hx.kept hc (hS _ hp)
theorem I3s.imp {p q : Nat → Prop} {w : World} {v : Value} {xs : List I3} (h : I3s p w v xs) (hp : ∀ g, p g → q g) : I3s q w v xs := SlR.imp h hp fun _ _ _ h => h
/-- an int's cell, and the slice that lies behind it -/
def I3ss (p : Nat → Prop) (w : World) (v : Value) (xs : List (List I3)) : Prop := SlR p 1 (fun w ad l => ∃ u, w.cell? ad = some u ∧ I3s p w u l) w v xs
theorem I3ss.kept {p : Nat → Prop} {S : Nat → Prop} {w w' : World} {v : Value} {xs : List (List I3)} (h : I3ss p w v xs) (hc : ChgP S w w') (hS : ∀ k, p k → ¬ S k) : I3ss p w' v xs :=
  SlR.imp h (fun _ h => h) fun ad x hp hx => by
    obtain ⟨u, h1, h2⟩ := hx
    exact ⟨u, (hc.cell (lt_of_cell h1) (hS _ hp)).trans h1, h2.kept hc hS⟩
/-- a three-field struct of ints -/
def i3v (k : I3) : Value := .agg #[.int .i64 k.1, .int .i64 k.2.1, .int .i64 k.2.2]
/-! ### slices of the call's own -/
theorem ownsRow_kept {w w' : World} {base : Nat} {e : TypeId} {size : Nat} {v : Value} {n : Nat} {xs : List Value} (h : w.ownsRow base e size v n xs) (hb : ∀ g, v.ownBlock = some g → g < w.heap.size → w'.heap[g]? = w.heap[g]?) : w'.ownsRow base e size v n xs := by
  refine ⟨h.1, ?_⟩
  rcases h.2 with hn | ⟨g, cap, cur, rfl, h1, h2, rest⟩
  · exact .inl hn
  · exact .inr ⟨g, cap, cur, rfl, h1, (hb g rfl (lt_of_obj h2)).trans h2, rest⟩
theorem ownsRow_base {w : World} {base base' : Nat} {e : TypeId} {size : Nat} {v : Value} {n : Nat} {xs : List Value} (h : w.ownsRow base e size v n xs) (hb : base' ≤ base) : w.ownsRow base' e size v n xs := by
  refine ⟨h.1, ?_⟩
  rcases h.2 with hn | ⟨g, cap, cur, rfl, h1, rest⟩
  · exact .inl hn
  · exact .inr ⟨g, cap, cur, rfl, by omega, rest⟩
theorem ownsRow_ge {w : World} {base : Nat} {e : TypeId} {size : Nat} {v : Value} {n : Nat} {xs : List Value} (h : w.ownsRow base e size v n xs) {g : Nat} (hg : v.ownBlock = some g) : base ≤ g ∧ g < w.heap.size := h.lt g hg
theorem ownsRow_shape {w : World} {base : Nat} {e : TypeId} {size : Nat} {v : Value} {n : Nat} {xs : List Value} (h : w.ownsRow base e size v n xs) : ∃ a cap, v = .slice a n cap := by
  rcases h.2 with ⟨rfl, rfl⟩ | ⟨g, cap, cur, rfl, _⟩
  · exact ⟨none, 0, rfl⟩
  · exact ⟨_, cap, rfl⟩
/-- the last element taken off -/
theorem ownsRow_pop {w : World} {base : Nat} {e : TypeId} {a : Option Addr} {n cap : Nat} {xs : List Value} {x : Value} (h : w.ownsRow base e 1 (.slice a (n + 1) cap) (n + 1) (xs ++ [x])) :
    w.ownsRow base e 1 (.slice a n cap) n xs ∧ ∃ g, a = some ⟨g, 0, none⟩ ∧ w.cell? ⟨g, n, none⟩ = some x ∧ n + 1 ≤ cap ∧ cap ≤ maxLen := by
  have hl : xs.length = n := by have := h.1; simp at this; omega
  rcases h.2 with ⟨_, h0⟩ | ⟨g, cap', cur, hv, h1, h2, h3, h4, h5, h6⟩
  · omega
  · simp only [Value.slice.injEq, true_and] at hv
    obtain ⟨rfl, rfl⟩ := hv
    refine ⟨⟨by simp [hl], .inr ⟨g, cap, cur, rfl, h1, h2, by omega, h4, h5, ?_⟩⟩, g, rfl, ?_, h3, h4⟩
    · have := congrArg (List.take n) h6
      rw [List.take_take, Nat.mul_one, Nat.min_eq_left (by omega), List.take_append_of_le_length (by omega), List.take_of_length_le (show xs.length ≤ n by omega)] at this
      rw [Nat.mul_one, this]
    · have := h.cells (g := g) rfl n x (by rw [List.getElem?_append_right (by omega), hl]; simp)
      simpa [Addr.add_lit] using this
/-- append, out of its run's equation -/
theorem wpList_append_run {P : Program} {ops : Array Oper} {rest : List Oper} {o : Oper} {a : Act} {w : World} {Q : Exit → Act → World → Prop} (hgd : o.guard = none) (s x : Operand) (t : TypeId)
    (ho : o.op = .call { callee := .builtin .append, args := #[s, x], argTypes := #[t, t] }) (v vx v' : Value) (w' : World) (hs : a.eval s = v) (hx : a.eval x = vx)
    (hr : (Builtin.append_ #[t, t] o.type #[v, vx]).run P w = .ok v' w') (h : wpList P ops Q rest (a.put o.dst v') w') : wpList P ops Q (o :: rest) a w := by
  refine wpList_plain hgd fun K hK => ?_
  unfold Oper.wp execOp
  simp only [ho, resolve, invoke, builtin, Sem.run_bind, Sem.run_pure, Result.andThen_ok, List.map_toArray, List.map_cons, List.map_nil, hs, hx, hr]
  exact hK _ _ h
theorem fold_take_snoc {α : Type} (l : List α) (k : Nat) (hk : k < l.length) (d : α) : l.take (k + 1) = l.take k ++ [l.getD k d] := by
  rw [List.take_succ_eq_append_getElem hk]
  simp [hk]
theorem getD_memb {α : Type} {l : List α} {k : Nat} (hk : k < l.length) (d : α) : l.getD k d ∈ l := by simp [hk]
end Go.Proofs.YticfigfipbcmhaaGreatDoor
