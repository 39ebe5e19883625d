/- The database: its plain state, how it lies in memory; delete and clear of a map. -/
import Derived.Test.YtdeodcomlakpaaaMmB
namespace Go.Proofs.Ytdeodcomlakpaaa
open Go.RowKit Go.ChangeMaps Go.MapKept
open Go.Maps (Keyed)
set_option linter.unusedVariables false
section
variable {P : Program} {K : Type} {kt : TypeId} {ek : K → Value}
theorem adel_none {V : Type} [DecidableEq K] {es : List (K × V)} {x : K} (h : ∀ p ∈ es, p.1 ≠ x) : adel es x = es := List.filter_eq_self.2 (by simpa using h)
theorem adel_ups {V : Type} [DecidableEq K] {es : List (K × V)} {x : K} {v : V} (h : aget es x = none) : adel (ups es x v) x = es := by
  have h1 := aget_none h
  rw [ups_none h1]
  unfold adel
  rw [List.filter_append, List.filter_eq_self.2 (by simpa using h1)]
  simp
theorem mem_adel {V : Type} [DecidableEq K] {es : List (K × V)} {x : K} {p : K × V} (h : p ∈ adel es x) : p ∈ es ∧ p.1 ≠ x := by
  unfold adel at h
  rw [List.mem_filter] at h
  exact ⟨h.1, by simpa using h.2⟩
/-- 'clear(m)' -/
theorem MapAt.clear {t et : TypeId} (ht : P.underlying t = some (.map kt et)) {w : World} {b : Nat} {es : List (K × Value)} (h : MapAt P kt ek w b es) (ty : TypeId) :
    ∃ o, (Builtin.clear_ #[t] ty #[.map (some b)]).run P w = .ok (.tuple #[]) (setBlock w b o) ∧ MapAt P kt ek (setBlock w b o) b [] := by
  obtain ⟨arr, clock, hb, he, hs, hok⟩ := h
  exact ⟨.map #[] clock, by simp [Builtin.clear_, run_underlying ht, MapKept.run_getObj_map hb, MapKept.run_setObj_map _ hb, Result.andThen, setBlock], _, _, heap_setBlock_same hb _, by simp, stamped_empty _, by simp⟩
variable [DecidableEq K]
theorem erase_entries (l : List MapEntry) (j : Nat) (e0 : MapEntry) (hj : l[j]? = some e0) (es : List (K × Value)) (hinj : ∀ x y, ek x = ek y → x = y) (he : l.map (fun e => (e.key, e.val)) = es.map (fun p => (ek p.1, p.2))) (hnd : (es.map (·.1)).Nodup) (x : K) (hx : e0.key = ek x) :
    (l.eraseIdx j).map (fun e => (e.key, e.val)) = (adel es x).map (fun p => (ek p.1, p.2)) := by
  induction l generalizing j es with
  | nil => simp at hj
  | cons e r ih =>
    cases es with
    | nil => simp at he
    | cons p s =>
      simp only [List.map_cons, List.cons.injEq, Prod.mk.injEq] at he
      rw [List.map_cons, List.nodup_cons] at hnd
      cases j with
      | zero =>
        simp only [List.getElem?_cons_zero, Option.some.injEq] at hj
        subst hj
        have : p.1 = x := hinj _ _ (he.1.1.symm.trans hx)
        have h2 : adel (p :: s) x = s := by
          unfold adel
          rw [List.filter_cons, this]
          simp only [ne_eq, not_true_eq_false, decide_false, Bool.false_eq_true, if_false]
          exact List.filter_eq_self.2 fun q hq => by
            simp only [decide_eq_true_eq]
            intro e; exact hnd.1 (List.mem_map.2 ⟨q, hq, by rw [e, this]⟩)
        rw [h2]
        exact he.2
      | succ j =>
        simp only [List.getElem?_cons_succ] at hj
        have hne : p.1 ≠ x := by
          intro e1
          have h1 : (e0.key, e0.val) ∈ s.map (fun p => (ek p.1, p.2)) := he.2 ▸ List.mem_map.2 ⟨e0, List.mem_of_getElem? hj, rfl⟩
          obtain ⟨q, hq, e2⟩ := List.mem_map.1 h1
          simp only [Prod.mk.injEq] at e2
          have : q.1 = x := hinj _ _ (by rw [e2.1, hx])
          exact hnd.1 (List.mem_map.2 ⟨q, hq, by rw [this, e1]⟩)
        have h2 : adel (p :: s) x = p :: adel s x := by unfold adel; rw [List.filter_cons]; simp [hne]
        rw [h2, List.eraseIdx_cons_succ, List.map_cons, List.map_cons, ih j hj s he.2 hnd.2, he.1.1, he.1.2]
/-- 'delete(m, k)' -/
theorem MapAt.delete (hk : Keyed P kt) (hinj : ∀ x y, ek x = ek y → x = y) {t et : TypeId} (ht : P.underlying t = some (.map kt et)) {w : World} {b : Nat} {es : List (K × Value)} (h : MapAt P kt ek w b es) {x : K} (hx : KeyOk P kt (ek x)) (ty : TypeId) :
    ∃ o, (Builtin.delete_ #[t, kt] ty #[.map (some b), ek x]).run P w = .ok (.tuple #[]) (setBlock w b o) ∧ MapAt P kt ek (setBlock w b o) b (adel es x) := by
  have hnd := h.nodup
  obtain ⟨arr, clock, hb, he, hs, hok⟩ := h
  obtain ⟨l, hl⟩ := hx
  have hkeys : ∀ e ∈ arr.toList, ∃ l, keyOf P kt e.key = some l := by
    intro e hm
    have h1 : (e.key, e.val) ∈ es.map (fun p => (ek p.1, p.2)) := he ▸ List.mem_map.2 ⟨e, hm, rfl⟩
    obtain ⟨p, hp, e1⟩ := List.mem_map.1 h1
    obtain ⟨l', hl'⟩ := hok p hp
    simp only [Prod.mk.injEq] at e1
    exact ⟨l', e1.1 ▸ hl'⟩
  rcases hk.find w hl arr.toList hkeys with ⟨h1, h2⟩ | ⟨j, e0, h1, h2, h3⟩
  · refine ⟨.map arr clock, by simp [Builtin.delete_, run_underlying ht, MapKept.run_getObj_map hb, hk.check w _ hl, h1, MapKept.run_setObj_map _ hb, Result.andThen, setBlock], _, _, heap_setBlock_same hb _, ?_, hs, fun p hp => hok p (mem_adel hp).1⟩
    rw [adel_none, he]
    intro p hp e1
    have h4 : (ek p.1, p.2) ∈ arr.toList.map (fun e => (e.key, e.val)) := he ▸ List.mem_map.2 ⟨p, hp, rfl⟩
    obtain ⟨e, hm, e2⟩ := List.mem_map.1 h4
    simp only [Prod.mk.injEq] at e2
    exact h2 e hm (by rw [e2.1, e1])
  · refine ⟨.map (arr.eraseIdxIfInBounds j) clock, by simp [Builtin.delete_, run_underlying ht, MapKept.run_getObj_map hb, hk.check w _ hl, h1, MapKept.run_setObj_map _ hb, Result.andThen, setBlock], _, _, heap_setBlock_same hb _, ?_, stamped_erase hs _, fun p hp => hok p (mem_adel hp).1⟩
    have hlt : j < arr.size := by have := (List.getElem?_eq_some_iff.1 h2).1; simpa using this
    rw [Array.eraseIdxIfInBounds, dif_pos hlt, Array.toList_eraseIdx]
    exact erase_entries arr.toList j e0 h2 es hinj he hnd x h3
end

/-! ### plain state -/
/-- an input -/
structure IV where
  xs : List Int
  ch : Int
  du : Int
def IV.zero : IV := ⟨[], 0, 0⟩
/-- a cached result -/
structure RV where
  xs : List Int
  ver : Int
  chg : Int
  dur : Int
  deps : List QK
  use : Int
structure PS where
  rev : Int
  l0 : Int
  l1 : Int
  l2 : Int
  cells : List (QK × IV)
  es : List (QK × RV)
  act : List (QK × Int)
  cnt : Int
  clk : Int
def PS.inp (s : PS) (k : QK) : IV := (aget s.cells k).getD IV.zero
def PS.last (s : PS) (d : Int) : Int := if d = 0 then s.l0 else if d = 1 then s.l1 else s.l2
def PS.busy (s : PS) (k : QK) : Int := (aget s.act k).getD 0
def amap {K V W : Type} (f : V → W) (es : List (K × V)) : List (K × W) := es.map fun p => (p.1, f p.2)
theorem aget_amap {K V W : Type} [DecidableEq K] (f : V → W) (es : List (K × V)) (k : K) : aget (amap f es) k = (aget es k).map f := by
  induction es with
  | nil => rfl
  | cons p r ih =>
    unfold amap at ih ⊢
    rw [List.map_cons, aget_cons, aget_cons, ih]
    split <;> rfl
theorem ups_amap {K V W : Type} [DecidableEq K] (f : V → W) (es : List (K × V)) (k : K) (c : V) : ups (amap f es) k (f c) = amap f (ups es k c) := by
  induction es with
  | nil => rfl
  | cons p r ih =>
    unfold amap at ih ⊢
    rw [List.map_cons]
    unfold ups
    simp only
    split
    · rfl
    · rw [ih]; rfl
theorem adel_amap {K V W : Type} [DecidableEq K] (f : V → W) (es : List (K × V)) (k : K) : adel (amap f es) k = amap f (adel es k) := by
  unfold adel amap
  rw [List.filter_map]
  rfl
theorem mem_amap {K V W : Type} {f : V → W} {es : List (K × V)} {p : K × W} (h : p ∈ amap f es) : ∃ v, (p.1, v) ∈ es ∧ p.2 = f v := by
  unfold amap at h
  obtain ⟨q, hq, rfl⟩ := List.mem_map.1 h
  exact ⟨q.2, hq, rfl⟩
/-! ### in memory -/
/-- a cached result: the block of its struct; its numbers (slice a, cap), when it was verified and changed, its durability, its dependencies (slice da, dcap), its last use -/
structure Rs where
  blk : Nat
  a : Option Addr
  cap : Nat
  xs : List Int
  ver : Int
  chg : Int
  dur : Int
  da : Option Addr
  dcap : Nat
  deps : List QK
  use : Int
def Rs.val (r : Rs) : Value := .pointer (some ⟨r.blk, 0, none⟩)
def Rs.pl (r : Rs) : RV := ⟨r.xs, r.ver, r.chg, r.dur, r.deps, r.use⟩
def oblk (a : Option Addr) : List Nat := a.toList.map (·.block)
def Rs.imm (r : Rs) : List Nat := oblk r.a ++ oblk r.da
def ivOf (c : Inp.CV) : IV := ⟨c.xs, c.ch, c.du⟩
/-- a database: its blocks, its function values, its state -/
structure Dm where
  bs : Nat
  bsm : Nat
  br : Nat
  ba : Nat
  comp : Value
  stop : Value
  S : Inp.St
  es : List (QK × Rs)
  act : List (QK × Int)
  cnt : Int
  clk : Int
def Dm.pl (d : Dm) : PS := ⟨d.S.rev, d.S.l0, d.S.l1, d.S.l2, amap ivOf d.S.es, amap Rs.pl d.es, d.act, d.cnt, d.clk⟩
/-- the blocks that the database writes -/
def Dm.muts (d : Dm) (b : Nat) : List Nat := b :: d.bs :: d.bsm :: d.br :: d.ba :: d.es.map (·.2.blk)
/-- the blocks that it only reads -/
def Dm.imms (d : Dm) : List Nat := d.S.es.flatMap (fun p => oblk p.2.a) ++ d.es.flatMap (fun p => p.2.imm)
structure RsAt (w : World) (r : Rs) : Prop where
  blk : w.heap[r.blk]? = some (.cells #[.slice r.a r.xs.length r.cap, .string ⟨#[]⟩, .int .i64 r.ver, .int .i64 r.chg, .int .i64 r.dur, .slice r.da r.deps.length r.dcap, .int .i64 r.use] 106 (0, 0))
  nums : Inp.Ints w (.slice r.a r.xs.length r.cap) r.xs
  size : r.xs.length * 8 ≤ 140737488355328
  deps : I3s (fun _ => True) w (.slice r.da r.deps.length r.dcap) r.deps
structure DmAt (w : World) (b : Nat) (d : Dm) : Prop where
  blk : w.heap[b]? = some (.cells #[d.comp, .pointer (some ⟨d.bs, 0, none⟩), .map (some d.br), .map (some d.ba), d.stop, .int .i64 d.cnt, .int .i64 d.clk] 88 (0, 0))
  store : Inp.StoreIs w d.bs d.bsm d.S
  text : ∀ p ∈ d.S.es, p.2.tx = ⟨#[]⟩
  res : MapAt Try.prog 27 Inp.qk w d.br (amap Rs.val d.es)
  act : MapAt Try.prog 27 Inp.qk w d.ba (amap (Value.int .i64) d.act)
  each : ∀ p ∈ d.es, RsAt w p.2
  nodup : (d.muts b).Nodup
  apart : ∀ g ∈ d.imms, g ∉ d.muts b
  bound : ∀ g ∈ d.imms, g < w.heap.size
theorem intsKept' {w w' : World} {a : Option Addr} {n cap : Nat} {xs : List Int} (h : Inp.Ints w (.slice a n cap) xs) (hb : ∀ g ∈ oblk a, w'.heap[g]? = w.heap[g]?) : Inp.Ints w' (.slice a n cap) xs := by
  rcases h with h | ⟨g, off, cap', c, fr, hv, h1, h2, h3, h4⟩
  · exact .inl h
  · refine .inr ⟨g, off, cap', c, fr, hv, h1, h2, ?_, h4⟩
    simp only [Value.slice.injEq] at hv
    exact (hb _ (by rw [hv.1]; simp [oblk])).trans h3
theorem i3sKept' {w w' : World} {a : Option Addr} {n cap : Nat} {xs : List I3} (h : I3s (fun _ => True) w (.slice a n cap) xs) (hb : ∀ g ∈ oblk a, w'.heap[g]? = w.heap[g]?) : I3s (fun _ => True) w' (.slice a n cap) xs := by
  obtain ⟨a', cap', hv, h1, h2, h3⟩ := h
  refine ⟨a', cap', hv, h1, h2, fun h0 => ?_⟩
  obtain ⟨g, off, rfl, hg, hc⟩ := h3 h0
  simp only [Value.slice.injEq] at hv
  have e := hb g (by rw [hv.1]; simp [oblk])
  refine ⟨g, off, rfl, trivial, fun j hj => ?_⟩
  obtain ⟨x1, x2, x3⟩ := hc j hj
  have e' : ∀ o, w'.cell? ⟨g, o, none⟩ = w.cell? ⟨g, o, none⟩ := fun o => World.cell?_of_block e
  exact ⟨(e' _).trans x1, (e' _).trans x2, (e' _).trans x3⟩
theorem RsAt.kept {w w' : World} {r : Rs} (h : RsAt w r) (hb : w'.heap[r.blk]? = w.heap[r.blk]?) (hi : ∀ g ∈ r.imm, w'.heap[g]? = w.heap[g]?) : RsAt w' r :=
  ⟨hb.trans h.blk, intsKept' h.nums fun g hg => hi g (List.mem_append_left _ hg), h.size, i3sKept' h.deps fun g hg => hi g (List.mem_append_right _ hg)⟩
theorem Dm.imm_mem {d : Dm} {p : QK × Rs} (hp : p ∈ d.es) {g : Nat} (hg : g ∈ p.2.imm) : g ∈ d.imms := List.mem_append_right _ (List.mem_flatMap.2 ⟨p, hp, hg⟩)
theorem Dm.imm_store {d : Dm} {p : QK × Inp.CV} (hp : p ∈ d.S.es) {g : Nat} (hg : g ∈ oblk p.2.a) : g ∈ d.imms := List.mem_append_left _ (List.mem_flatMap.2 ⟨p, hp, hg⟩)
theorem Dm.mut_mem {d : Dm} {b : Nat} {p : QK × Rs} (hp : p ∈ d.es) : p.2.blk ∈ d.muts b := by
  unfold Dm.muts
  simp only [List.mem_cons]
  exact .inr (.inr (.inr (.inr (.inr (List.mem_map.2 ⟨p, hp, rfl⟩)))))
theorem DmAt.lt {w : World} {b : Nat} {d : Dm} (h : DmAt w b d) : ∀ g ∈ d.muts b, g < w.heap.size := by
  intro g hg
  unfold Dm.muts at hg
  simp only [List.mem_cons, List.mem_map] at hg
  rcases hg with rfl | rfl | rfl | rfl | rfl | ⟨p, hp, rfl⟩
  · exact lt_of_obj h.blk
  · exact lt_of_obj h.store.blk
  · exact h.store.map.lt
  · exact h.res.lt
  · exact h.act.lt
  · exact lt_of_obj (h.each p hp).blk
theorem DmAt.keptB {w w' : World} {b : Nat} {d : Dm} (h : DmAt w b d) (hs : w.heap.size ≤ w'.heap.size) (hm : ∀ g ∈ d.muts b, w'.heap[g]? = w.heap[g]?) (hi : ∀ g ∈ d.imms, w'.heap[g]? = w.heap[g]?) : DmAt w' b d := by
  have hst : Inp.StoreIs w' d.bs d.bsm d.S := ⟨(hm _ (by simp [Dm.muts])).trans h.store.blk, h.store.map.of_block (hm _ (by simp [Dm.muts])), fun p hp => ⟨intsKept' (h.store.vals p hp).1 fun g hg => hi g (Dm.imm_store hp hg), (h.store.vals p hp).2⟩⟩
  exact ⟨(hm _ (by simp [Dm.muts])).trans h.blk, hst, h.text, h.res.of_block (hm _ (by simp [Dm.muts])), h.act.of_block (hm _ (by simp [Dm.muts])), fun p hp => (h.each p hp).kept (hm _ (Dm.mut_mem hp)) fun g hg => hi g (Dm.imm_mem hp hg), h.nodup, h.apart, fun g hg => Nat.lt_of_lt_of_le (h.bound g hg) hs⟩
theorem DmAt.kept {S : Nat → Prop} {w w' : World} {b : Nat} {d : Dm} (h : DmAt w b d) (hc : ChgP S w w') (hm : ∀ g ∈ d.muts b, ¬ S g) (hi : ∀ g ∈ d.imms, ¬ S g) : DmAt w' b d :=
  h.keptB hc.size (fun g hg => hc.block g (h.lt g hg) (hm g hg)) (fun g hg => hc.block g (h.bound g hg) (hi g hg))
theorem DmAt.new {w w' : World} {b : Nat} {d : Dm} (h : DmAt w b d) (hc : Chg [] w w') : DmAt w' b d := h.kept hc.toP (by simp) (by simp)
end Go.Proofs.Ytdeodcomlakpaaa
