/- JsonrpcRoundTrip: the walk (printed by wip/gen_jrs.py). -/
import Derived.Test.YtiklgipcgdgkoaaDoorJrR
import Derived.Test.YtiklgipcgdgkoaaDoorJrP
import Derived.Deep.RegionLaw
namespace Go.Proofs.YtiklgipcgdgkoaaDoor.Jv
open Go.RowKit Go.ChangeMaps Go.MapKept
set_option linter.unusedVariables false
set_option linter.unusedSimpArgs false
/-- an object that is built member by member -/
structure RR (w7 wr : World) (rb : Nat) (na : Option Addr) (nl nc : Nat) (ea : Option Addr) (el ec : Nat) (ns : List ByteArray) (vs : List Ev) : Prop where
  box : wr.heap[rb]? = some (.cells #[.int .i64 5, .int .i64 0, .string ⟨#[]⟩, .slice na nl nc, .slice ea el ec] 25 (0, 0))
  nm : OwnN wr (rb + 1) (.slice na nl nc) ns
  em : OwnE wr (rb + 1) (.slice ea el ec) vs
  ln : nl = ns.length
  le : el = vs.length
  ch : Chg [rb] w7 wr
  hb : rb + 1 ≤ wr.heap.size
theorem RR.next {w7 wr wf : World} {rb : Nat} {na ea a a2 : Option Addr} {nl nc el ec c c2 n2 m2 : Nat} {ns ns' : List ByteArray} {vs vs' : List Ev} (h : RR w7 wr rb na nl nc ea el ec ns vs) (hk : ChgP (fun g => rb + 1 ≤ g) wr wf) (hn : OwnN wf (rb + 1) (.slice a n2 c) ns') (he : OwnE wf (rb + 1) (.slice a2 m2 c2) vs') (hln : n2 = ns'.length) (hle : m2 = vs'.length) (h7 : w7.heap.size = rb + 1) :
    RR w7 ((wf.setCell ⟨rb, 3, none⟩ (.slice a n2 c)).setCell ⟨rb, 4, none⟩ (.slice a2 m2 c2)) rb a n2 c a2 m2 c2 ns' vs' := by
  have hcs : Chg [rb] wf ((wf.setCell ⟨rb, 3, none⟩ (.slice a n2 c)).setCell ⟨rb, 4, none⟩ (.slice a2 m2 c2)) := ((Chg.refl [rb] wf).setCell (p := ⟨rb, 3, none⟩) (Or.inl (by simp)) _).setCell (p := ⟨rb, 4, none⟩) (Or.inl (by simp)) _
  have hbx := (hk.block rb (lt_of_obj h.box) (by omega)).trans h.box
  have hb1 := heap_setCell_same (i := 3) hbx (.slice a n2 c)
  have hb2 := heap_setCell_same (i := 4) hb1 (.slice a2 m2 c2)
  have hge : ∀ g, rb + 1 ≤ g → g ∉ [rb] := fun g hg hm => by have := List.mem_singleton.1 hm; omega
  refine ⟨?_, hn.kept hcs.toP fun g hg => hge g (ownsRow_ge hn.1 hg).1, he.kept hcs.toP fun g hg => hge g (ownsRow_ge he hg).1, hln, hle, ?_, Nat.le_trans h.hb (Nat.le_trans hk.size hcs.size)⟩
  · rw [hb2]; simp
  · refine (h.ch.toP.comp hk fun x hx => Or.inr (by omega)).toL.trans hcs
/-- one name more -/
theorem pushN {w : World} {B : Nat} {na : Option Addr} {nl nc n : Nat} {ns : List ByteArray} {s : ByteArray} (ty : TypeId) (hv : OwnN w B (.slice na nl nc) ns) (hl : nl = ns.length) (hs : s.size ≤ maxLen) (hb : w.heap[n]? = some (.cells #[.string s] 9 (0, 0))) (hlen : ns.length ≤ 1000) (hB : B ≤ w.heap.size) :
    ∃ a c w', (Builtin.append_ #[22, 22] ty #[.slice na nl nc, .slice (some ⟨n, 0, none⟩) 1 1]).run Tryd.prog w = .ok (.slice a (nl + 1) c) w' ∧ OwnN w' B (.slice a (nl + 1) c) (ns ++ [s]) ∧ Chg (Value.slice na nl nc).ownBlock.toList w w' := by
  obtain ⟨a, c, w', h1, h2, h3, _⟩ := run_append_nm w ty B _ ns s n hv hs hb (by omega) hB
  rw [← hl] at h1 h2
  exact ⟨a, c, w', h1, h2, h3⟩
/-- one value more -/
theorem pushE {w : World} {B : Nat} {ea : Option Addr} {el ec n : Nat} {vs : List Ev} {e : Ev} (ty : TypeId) (hv : OwnE w B (.slice ea el ec) vs) (hl : el = vs.length) (hb : w.heap[n]? = some (.cells #[.int .i64 e.k, .int .i64 e.n, .string e.t, .slice e.na e.nl e.nc, .slice e.ia e.il e.ic] 25 (0, 0))) (hlen : vs.length ≤ 1000) (hB : B ≤ w.heap.size) :
    ∃ a c w', (Builtin.append_ #[23, 23] ty #[.slice ea el ec, .slice (some ⟨n, 0, none⟩) 1 1]).run Tryd.prog w = .ok (.slice a (el + 1) c) w' ∧ OwnE w' B (.slice a (el + 1) c) (vs ++ [e]) ∧ Chg (Value.slice ea el ec).ownBlock.toList w w' := by
  obtain ⟨v', w', h1, h2, h3, _⟩ := run_append_ev w ty B _ vs e n hv hb (by omega) hB
  obtain ⟨a, c, rfl⟩ := ownsRow_shape h2
  rw [List.length_append, List.length_singleton, ← hl] at h1 h2
  exact ⟨a, c, w', h1, h2, h3⟩
/-- a row of names lies beside a row of values -/
theorem apartNE {w : World} {B : Nat} {v v' : Value} {ns : List ByteArray} {vs : List Ev} (h : OwnN w B v ns) (h' : OwnE w B v' vs) {g : Nat} (hg : v.ownBlock = some g) (hg' : v'.ownBlock = some g) : False := by
  rcases h'.2 with ⟨h0, _⟩ | ⟨g', cap', cur, hv, _, h2, _⟩
  · subst h0; cases hg'
  · subst hv
    simp only [Value.ownBlock, Option.some.injEq] at hg'
    subst hg'
    exact own_ne h.1 hg h2
theorem append1 {P : Program} {o : Oper} {a : Act} {w : World} {K : Act → World → Prop} {Q : Exit → Act → World → Prop} (s x : Operand) (t : TypeId) (ho : o.op = .call { callee := .builtin .append, args := #[s, x], argTypes := #[t, t] }) (v vx v' : Value) (w' : World) (hs : a.eval s = v) (hx : a.eval x = vx)
    (hr : (Builtin.append_ #[t, t] o.type #[v, vx]).run P w = .ok v' w') (h : K (a.put o.dst v') w') : Oper.wp P o a w K Q := by
  unfold Oper.wp execOp
  simp only [ho, resolve, invoke, builtin, Sem.run_bind, Sem.run_pure, Result.andThen_ok, List.map_toArray, List.map_cons, List.map_nil, hs, hx, hr]
  exact h
/-- the values of an object's elements -/
theorem elems_ev {p : Nat → Prop} {f : Nat} {w : World} {a : Option Addr} {n cap : Nat} {es : List J} (h : SlR p 5 (rdJ p f) w (.slice a n cap) es) : ∃ vs : List Ev, vs.length = es.length ∧ ∀ i (hi : i < es.length) (hv : i < vs.length), ∃ g off, a = some ⟨g, off, none⟩ ∧ p g ∧ (w.cell? ⟨g, off + i * 5, none⟩ = some (.int .i64 vs[i].k) ∧ w.cell? ⟨g, off + i * 5 + 1, none⟩ = some (.int .i64 vs[i].n) ∧ w.cell? ⟨g, off + i * 5 + 2, none⟩ = some (.string vs[i].t) ∧ w.cell? ⟨g, off + i * 5 + 3, none⟩ = some (.slice vs[i].na vs[i].nl vs[i].nc) ∧ w.cell? ⟨g, off + i * 5 + 4, none⟩ = some (.slice vs[i].ia vs[i].il vs[i].ic)) ∧ JV p f w vs[i].val es[i] := by
  have hex : ∀ i, i < es.length → ∃ e : Ev, ∃ g off, a = some ⟨g, off, none⟩ ∧ p g ∧ (w.cell? ⟨g, off + i * 5, none⟩ = some (.int .i64 e.k) ∧ w.cell? ⟨g, off + i * 5 + 1, none⟩ = some (.int .i64 e.n) ∧ w.cell? ⟨g, off + i * 5 + 2, none⟩ = some (.string e.t) ∧ w.cell? ⟨g, off + i * 5 + 3, none⟩ = some (.slice e.na e.nl e.nc) ∧ w.cell? ⟨g, off + i * 5 + 4, none⟩ = some (.slice e.ia e.il e.ic)) ∧ JV p f w e.val (es.getD i J.zero) := fun i hi => by
    obtain ⟨g, off, na, nc, ia, ic, hg, hp, h0, h1, h2, h3, h4, f', hf, hj⟩ := elem_at h hi
    refine ⟨⟨es[i].kind, es[i].num, es[i].text, na, es[i].names.length, nc, ia, es[i].elems.length, ic⟩, g, off, hg, hp, ⟨h0, h1, h2, h3, h4⟩, ?_⟩
    rw [List.getD_eq_getElem?_getD, List.getElem?_eq_getElem hi, Option.getD_some]
    exact JV.more (by omega) hj
  have hch : ∃ fe : Nat → Ev, ∀ i, i < es.length → ∃ g off, a = some ⟨g, off, none⟩ ∧ p g ∧ (w.cell? ⟨g, off + i * 5, none⟩ = some (.int .i64 (fe i).k) ∧ w.cell? ⟨g, off + i * 5 + 1, none⟩ = some (.int .i64 (fe i).n) ∧ w.cell? ⟨g, off + i * 5 + 2, none⟩ = some (.string (fe i).t) ∧ w.cell? ⟨g, off + i * 5 + 3, none⟩ = some (.slice (fe i).na (fe i).nl (fe i).nc) ∧ w.cell? ⟨g, off + i * 5 + 4, none⟩ = some (.slice (fe i).ia (fe i).il (fe i).ic)) ∧ JV p f w (fe i).val (es.getD i J.zero) :=
    ⟨fun i => if hi : i < es.length then (hex i hi).choose else ev0, fun i hi => by simp only [dif_pos hi]; exact (hex i hi).choose_spec⟩
  obtain ⟨fe, hf⟩ := hch
  refine ⟨(List.range es.length).map fe, by simp, fun i hi hv => ?_⟩
  have e : ((List.range es.length).map fe)[i] = fe i := by simp
  have := hf i hi
  rw [List.getD_eq_getElem?_getD, List.getElem?_eq_getElem hi, Option.getD_some] at this
  rw [e]
  exact this
end Go.Proofs.YtiklgipcgdgkoaaDoor.Jv
