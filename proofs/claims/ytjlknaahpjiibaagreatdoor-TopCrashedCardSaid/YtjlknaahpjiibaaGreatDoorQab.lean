/- Part of the proof of topCrashedLaw_holds. -/
import Derived.Deep.OwnRows
import Derived.Maps.AppendAt
import Derived.Deep.AppendLies
import Derived.Deep.QuietTactic
import Derived.BigQuiet
import Derived.Deep.RegionHeld3
import Derived.Deep.DeepFit
import Derived.Deep.LoopGhost
import Derived.Test.YtjlknaahpjiibaaGreatDoorQaa
namespace Go.Proofs.YtjlknaahpjiibaaGreatDoor
open Go.RowKit
set_option linter.unusedVariables false
structure ChgP (S : Nat → Prop) (w w' : World) : Prop where
 os : w'.os = w.os
 tape : w'.tape = w.tape
 output : w'.output = w.output
 size : w.heap.size ≤ w'.heap.size
 block : ∀ k, k < w.heap.size → ¬ S k → w'.heap[k]? = w.heap[k]?
theorem ChgP.refl (S : Nat → Prop) (w : World) : ChgP S w w := ⟨rfl, rfl, rfl, Nat.le_refl _, fun _ _ _ => rfl⟩
theorem ChgP.comp {S T : Nat → Prop} {a b c : World} (h : ChgP S a b) (k : ChgP T b c) (hT : ∀ x, T x → S x ∨ a.heap.size ≤ x) : ChgP S a c :=
 ⟨k.os.trans h.os, k.tape.trans h.tape, k.output.trans h.output, Nat.le_trans h.size k.size, fun i hi hn =>
  (k.block i (Nat.lt_of_lt_of_le hi h.size) (fun hm => (hT i hm).elim hn (fun hs => absurd hi (Nat.not_lt.2 hs)))).trans (h.block i hi hn)⟩
theorem ChgP.trans {S : Nat → Prop} {a b c : World} (h : ChgP S a b) (k : ChgP S b c) : ChgP S a c := h.comp k fun _ hx => Or.inl hx
theorem ChgP.mono {S T : Nat → Prop} {a b : World} (h : ChgP S a b) (hT : ∀ x, S x → T x) : ChgP T a b := (ChgP.refl T a).comp h fun x hx => Or.inl (hT x hx)
theorem Chg.toP {S : List Nat} {a b : World} (h : Chg S a b) : ChgP (fun k => k ∈ S) a b := ⟨h.os, h.tape, h.output, h.size, h.block⟩
theorem Chg.p {S : Nat → Prop} {a b : World} (h : Chg [] a b) : ChgP S a b := h.toP.mono (by simp)
theorem ChgP.new {S : Nat → Prop} {a b c : World} (h : ChgP S a b) (k : Chg [] b c) : ChgP S a c := h.trans k.p
theorem ChgP.setCell {S : Nat → Prop} {a w : World} (h : ChgP S a w) {p : Addr} (hp : S p.block ∨ a.heap.size ≤ p.block) (u : Value) : ChgP S a (w.setCell p u) :=
 h.comp (T := fun k => k = p.block) (((Chg.refl [p.block] w).setCell (Or.inl (by simp)) u).toP.mono (by simp)) (by rintro x rfl; exact hp)
theorem ChgP.grown {S : Nat → Prop} {a w w' : World} {row : Option Nat} (h : ChgP S a w) (hg : w.grownBy w' row) (hr : ∀ k, row = some k → S k ∨ a.heap.size ≤ k) : ChgP S a w' :=
 h.comp (T := fun k => row = some k) ⟨hg.os, hg.tape, hg.output, hg.size, fun k hk hn => hg.block k hk (fun e => hn e.symm)⟩ hr
theorem ChgP.cell {S : Nat → Prop} {a w : World} (h : ChgP S a w) {p : Addr} (hp : p.block < a.heap.size) (hn : ¬ S p.block) : w.cell? p = a.cell? p := World.cell?_of_block (w := a) (h.block p.block hp hn)
def SlR {α : Type} (p : Nat → Prop) (sz : Nat) (rd : World → Addr → α → Prop) (w : World) (v : Value) (xs : List α) : Prop :=
 ∃ a cap, v = .slice a xs.length cap ∧ xs.length ≤ cap ∧ cap ≤ maxLen ∧ (0 < xs.length → ∃ g off, a = some ⟨g, off, none⟩ ∧ p g ∧ ∀ j (h : j < xs.length), rd w ⟨g, off + j * sz, none⟩ xs[j])
theorem SlR.imp {α : Type} {p q : Nat → Prop} {sz : Nat} {rd rd' : World → Addr → α → Prop} {w w' : World} {v : Value} {xs : List α} (h : SlR p sz rd w v xs) (hp : ∀ g, p g → q g) (hr : ∀ ad x, p ad.block → rd w ad x → rd' w' ad x) : SlR q sz rd' w' v xs := by
 obtain ⟨a, cap, rfl, h1, h2, h3⟩ := h
 refine ⟨a, cap, rfl, h1, h2, fun h0 => ?_⟩
 obtain ⟨g, off, rfl, hg, hc⟩ := h3 h0
 exact ⟨g, off, rfl, hp g hg, fun j hj => hr _ _ hg (hc j hj)⟩
theorem SlR.shape {α : Type} {p : Nat → Prop} {sz : Nat} {rd : World → Addr → α → Prop} {w : World} {v : Value} {xs : List α} (h : SlR p sz rd w v xs) : ∃ a cap, v = .slice a xs.length cap ∧ xs.length ≤ maxLen ∧ xs.length ≤ cap := by
 obtain ⟨a, cap, h, h1, h2, _⟩ := h
 exact ⟨a, cap, h, by omega, h1⟩
theorem SlR.at {α : Type} {p : Nat → Prop} {sz : Nat} {rd : World → Addr → α → Prop} {w : World} {a : Option Addr} {n cap : Nat} {xs : List α} (h : SlR p sz rd w (.slice a n cap) xs) (i : Nat) (hi : i < xs.length) (d : α) :
 ∃ g off, a = some ⟨g, off, none⟩ ∧ p g ∧ rd w ⟨g, off + i * sz, none⟩ (xs.getD i d) := by
 obtain ⟨a', cap', hv, h1, h2, h3⟩ := h
 simp only [Value.slice.injEq] at hv
 obtain ⟨rfl, _, _⟩ := hv
 obtain ⟨g, off, rfl, hg, hc⟩ := h3 (by omega)
 refine ⟨g, off, rfl, hg, ?_⟩
 have := hc i hi
 rw [List.getD_eq_getElem?_getD, List.getElem?_eq_getElem hi]
 exact this
theorem SlR.nil {α : Type} (p : Nat → Prop) (sz : Nat) (rd : World → Addr → α → Prop) (w : World) : SlR p sz rd w (.slice none 0 0) [] := ⟨none, 0, rfl, by simp, by simp, fun h => absurd h (by simp)⟩
theorem ownsRow_kept {w w' : World} {base : Nat} {e : TypeId} {size : Nat} {v : Value} {n : Nat} {xs : List Value} (h : w.ownsRow base e size v n xs) (hb : ∀ g, v.ownBlock = some g → g < w.heap.size → w'.heap[g]? = w.heap[g]?) : w'.ownsRow base e size v n xs := by
 refine ⟨h.1, ?_⟩
 rcases h.2 with hn | ⟨g, cap, cur, rfl, h1, h2, rest⟩
 · exact .inl hn
 · exact .inr ⟨g, cap, cur, rfl, h1, (hb g rfl (lt_of_obj h2)).trans h2, rest⟩
theorem ownsRow_base {w : World} {base base' : Nat} {e : TypeId} {size : Nat} {v : Value} {n : Nat} {xs : List Value} (h : w.ownsRow base e size v n xs) (hb : base' ≤ base) : w.ownsRow base' e size v n xs := by
 refine ⟨h.1, ?_⟩
 rcases h.2 with hn | ⟨g, cap, cur, rfl, h1, rest⟩
 · exact .inl hn
 · exact .inr ⟨g, cap, cur, rfl, by omega, rest⟩
theorem ownsRow_ge {w : World} {base : Nat} {e : TypeId} {size : Nat} {v : Value} {n : Nat} {xs : List Value} (h : w.ownsRow base e size v n xs) {g : Nat} (hg : v.ownBlock = some g) : base ≤ g ∧ g < w.heap.size := h.lt g hg
theorem ownsRow_shape {w : World} {base : Nat} {e : TypeId} {size : Nat} {v : Value} {n : Nat} {xs : List Value} (h : w.ownsRow base e size v n xs) : ∃ a cap, v = .slice a n cap := by
 rcases h.2 with ⟨rfl, rfl⟩ | ⟨g, cap, cur, rfl, _⟩
 · exact ⟨none, 0, rfl⟩
 · exact ⟨_, cap, rfl⟩
theorem wpList_append_run {P : Program} {ops : Array Oper} {rest : List Oper} {o : Oper} {a : Act} {w : World} {Q : Exit → Act → World → Prop} (hgd : o.guard = none) (s x : Operand) (t : TypeId)
 (ho : o.op = .call { callee := .builtin .append, args := #[s, x], argTypes := #[t, t] }) (v vx v' : Value) (w' : World) (hs : a.eval s = v) (hx : a.eval x = vx)
 (hr : (Builtin.append_ #[t, t] o.type #[v, vx]).run P w = .ok v' w') (h : wpList P ops Q rest (a.put o.dst v') w') : wpList P ops Q (o :: rest) a w := by
 refine wpList_plain hgd fun K hK => ?_
 unfold Oper.wp execOp
 simp only [ho, resolve, invoke, builtin, Sem.run_bind, Sem.run_pure, Result.andThen_ok, List.map_toArray, List.map_cons, List.map_nil, hs, hx, hr]
 exact hK _ _ h
theorem fold_take_snoc {α : Type} (l : List α) (k : Nat) (hk : k < l.length) (d : α) : l.take (k + 1) = l.take k ++ [l.getD k d] := by
 rw [List.take_succ_eq_append_getElem hk]
 simp [hk]
theorem getD_memb {α : Type} {l : List α} {k : Nat} (hk : k < l.length) (d : α) : l.getD k d ∈ l := by simp [hk]
end Go.Proofs.YtjlknaahpjiibaaGreatDoor
namespace Go.Proofs.YtjlknaahpjiibaaGreatDoor
set_option linter.unusedVariables false
def fidx {α : Type} (q : α → Bool) (l : List α) : Int := match l.findIdx? q with
 | some k => (k : Int)
 | none => -1
theorem fidx_some {α : Type} (q : α → Bool) (l : List α) (k : Nat) (hk : k < l.length) (d : α) (h : ∀ x ∈ l.take k, q x = false) (hq : q (l.getD k d) = true) : fidx q l = (k : Int) := by
 have : l.findIdx? q = some k := by
  rw [List.findIdx?_eq_some_iff_getElem]
  refine ⟨hk, by simpa [hk] using hq, fun j hj => ?_⟩
  have := h (l[j]'(by omega)) (by rw [List.mem_take_iff_getElem]; exact ⟨j, by omega, rfl⟩)
  simp [this]
 simp [fidx, this]
theorem fidx_none {α : Type} (q : α → Bool) (l : List α) (h : ∀ x ∈ l, q x = false) : fidx q l = -1 := by
 have : l.findIdx? q = none := by
  rw [List.findIdx?_eq_none_iff]
  exact h
 simp [fidx, this]
end Go.Proofs.YtjlknaahpjiibaaGreatDoor
