/- Cloning values: the new numbers lie in a new block. -/
import Derived.Test.YtggiddhhbilcjaaGa
import Derived.Test.YtggiddhhbilcjaaGc
import Derived.StillTailTactics
/- Cloning values: the new numbers lie in a new block. -/
namespace Go.Proofs.Ytggiddhhbilcjaa.Inp
open Go.RowKit
set_option linter.unusedVariables false
/-- memo.clone -/
theorem memoClone (w : World) (v : Value) (s : ByteArray) (xs : List Int) (h : Ints w v xs) (hl : xs.length * 8 ≤ 140737488355328) :
    Calls Try.prog 76 #[.agg #[v, .string s]] w fun e w' => ∃ a c, e = .returned (.agg #[.slice a xs.length c, .string s]) ∧ Ints w' (.slice a xs.length c) xs ∧ (∀ ad, a = some ad → w.heap.size ≤ ad.block) ∧ Chg [] w w' := by
  obtain ⟨a0, c0, rfl⟩ := h.shape
  have Hh := Lib.hid h
  clear h
  go_enter Try.func76, Try.ntmps76
  go_wp2_with fail
  go_region_held3 (fun w' => w'.cell? ⟨w.heap.size, 0, none⟩ = some (.slice a0 xs.length c0) ∧ w'.cell? ⟨w.heap.size, 1, none⟩ = some (.string s))
    (first | go_keep | (go_split_ands; refine ⟨?_, ?_⟩ <;> (rw [hc1.cell (by simp; try omega) (by simp)]; simp [go_sem, World.cell?_alloc_past])))
    ((go_at_call 62; refine (slicesClone _ _ xs (Hh.out.same (by exact (((Chg.refl [] w).alloc _).alloc _).drew)) hl).mono ?_; rintro e w1 ⟨a1, c1, rfl, hi1, hn1, hc1⟩; have q1 := hc1.block (w.heap.size + 1) (by simp) (by simp); have r0 : w1.cell? ⟨w.heap.size + 1, 0, none⟩ = some (.slice none 0 0) := (World.cell?_of_block q1).trans (by simp [go_sem]); have r1 : w1.cell? ⟨w.heap.size + 1, 1, none⟩ = some (.string ⟨#[]⟩) := (World.cell?_of_block q1).trans (by simp [go_sem]); have f0 : w1.frozen? ⟨w.heap.size + 1, 0, none⟩ = false := (World.frozen?_of_block q1).trans (by simp [go_sem]); have f1 : w1.frozen? ⟨w.heap.size + 1, 1, none⟩ = false := (World.frozen?_of_block q1).trans (by simp [go_sem])))
  go_wp2
  refine bodyPost_ret (v := .agg #[.slice a1 xs.length c1, .string s]) (by simp [results, Try.results76, go_sem, r0, r1]) rfl ⟨a1, c1, rfl, ?_, fun ad ha => by have := hn1 ad ha; simp at this; omega, ?_⟩
  · exact hi1.kept (((Chg.refl [w.heap.size + 1] _).setCell (Or.inl (by simp)) _).setCell (Or.inl (by simp)) _) (fun k hk => by
      obtain rfl : k = w.heap.size + 1 := by simpa using hk
      intro c fr
      rw [q1, show ∀ w0 : World, w0.drew.heap = w0.heap from fun _ => rfl, show w.heap.size + 1 = (w.alloc (.cells #[.slice a0 xs.length c0, .string s] 39)).heap.size from by simp, heap_alloc_new]
      simp)
  · exact (((((Chg.refl [] w).alloc _).alloc _).drew.new hc1).setCell (Or.inr (by simp)) _).setCell (Or.inr (by simp)) _
end Go.Proofs.Ytggiddhhbilcjaa.Inp
/- The database: its plain state, how it lies in memory; delete and clear of a map. -/
namespace Go.Proofs.Ytggiddhhbilcjaa
open Go.RowKit Go.ChangeMaps Go.MapKept
open Go.Maps (Keyed)
set_option linter.unusedVariables false
section
variable {P : Program} {K : Type} {kt : TypeId} {ek : K → Value}
theorem adel_none {V : Type} [DecidableEq K] {es : List (K × V)} {x : K} (h : ∀ p ∈ es, p.1 ≠ x) : adel es x = es := List.filter_eq_self.2 (by simpa using h)
theorem adel_ups {V : Type} [DecidableEq K] {es : List (K × V)} {x : K} {v : V} (h : aget es x = none) : adel (ups es x v) x = es := by
  have h1 := aget_none h
  rw [ups_none h1]
  unfold adel
  rw [List.filter_append, List.filter_eq_self.2 (by simpa using h1)]
  simp
theorem mem_adel {V : Type} [DecidableEq K] {es : List (K × V)} {x : K} {p : K × V} (h : p ∈ adel es x) : p ∈ es ∧ p.1 ≠ x := by
  unfold adel at h
  rw [List.mem_filter] at h
  exact ⟨h.1, by simpa using h.2⟩
/-- 'clear(m)' -/
theorem MapAt.clear {t et : TypeId} (ht : P.underlying t = some (.map kt et)) {w : World} {b : Nat} {es : List (K × Value)} (h : MapAt P kt ek w b es) (ty : TypeId) :
    ∃ o, (Builtin.clear_ #[t] ty #[.map (some b)]).run P w = .ok (.tuple #[]) (setBlock w b o) ∧ MapAt P kt ek (setBlock w b o) b [] := by
  obtain ⟨arr, clock, hb, he, hs, hok⟩ := h
  exact ⟨.map #[] clock, by simp [Builtin.clear_, run_underlying ht, MapKept.run_getObj_map hb, MapKept.run_setObj_map _ hb, Result.andThen, setBlock], _, _, heap_setBlock_same hb _, by simp, stamped_empty _, by simp⟩
variable [DecidableEq K]
theorem erase_entries (l : List MapEntry) (j : Nat) (e0 : MapEntry) (hj : l[j]? = some e0) (es : List (K × Value)) (hinj : ∀ x y, ek x = ek y → x = y) (he : l.map (fun e => (e.key, e.val)) = es.map (fun p => (ek p.1, p.2))) (hnd : (es.map (·.1)).Nodup) (x : K) (hx : e0.key = ek x) :
    (l.eraseIdx j).map (fun e => (e.key, e.val)) = (adel es x).map (fun p => (ek p.1, p.2)) := by
  induction l generalizing j es with
  | nil => simp at hj
  | cons e r ih =>
    cases es with
    | nil => simp at he
    | cons p s =>
      simp only [List.map_cons, List.cons.injEq, Prod.mk.injEq] at he
      rw [List.map_cons, List.nodup_cons] at hnd
      cases j with
      | zero =>
        simp only [List.getElem?_cons_zero, Option.some.injEq] at hj
        subst hj
        have : p.1 = x := hinj _ _ (he.1.1.symm.trans hx)
        have h2 : adel (p :: s) x = s := by
          unfold adel
          rw [List.filter_cons, this]
          simp only [ne_eq, not_true_eq_false, decide_false, Bool.false_eq_true, if_false]
          exact List.filter_eq_self.2 fun q hq => by
            simp only [decide_eq_true_eq]
            intro e; exact hnd.1 (List.mem_map.2 ⟨q, hq, by rw [e, this]⟩)
        rw [h2]
        exact he.2
      | succ j =>
        simp only [List.getElem?_cons_succ] at hj
        have hne : p.1 ≠ x := by
          intro e1
          have h1 : (e0.key, e0.val) ∈ s.map (fun p => (ek p.1, p.2)) := he.2 ▸ List.mem_map.2 ⟨e0, List.mem_of_getElem? hj, rfl⟩
          obtain ⟨q, hq, e2⟩ := List.mem_map.1 h1
          simp only [Prod.mk.injEq] at e2
          have : q.1 = x := hinj _ _ (by rw [e2.1, hx])
          exact hnd.1 (List.mem_map.2 ⟨q, hq, by rw [this, e1]⟩)
        have h2 : adel (p :: s) x = p :: adel s x := by unfold adel; rw [List.filter_cons]; simp [hne]
        rw [h2, List.eraseIdx_cons_succ, List.map_cons, List.map_cons, ih j hj s he.2 hnd.2, he.1.1, he.1.2]
/-- 'delete(m, k)' -/
theorem MapAt.delete (hk : Keyed P kt) (hinj : ∀ x y, ek x = ek y → x = y) {t et : TypeId} (ht : P.underlying t = some (.map kt et)) {w : World} {b : Nat} {es : List (K × Value)} (h : MapAt P kt ek w b es) {x : K} (hx : KeyOk P kt (ek x)) (ty : TypeId) :
    ∃ o, (Builtin.delete_ #[t, kt] ty #[.map (some b), ek x]).run P w = .ok (.tuple #[]) (setBlock w b o) ∧ MapAt P kt ek (setBlock w b o) b (adel es x) := by
  have hnd := h.nodup
  obtain ⟨arr, clock, hb, he, hs, hok⟩ := h
  obtain ⟨l, hl⟩ := hx
  have hkeys : ∀ e ∈ arr.toList, ∃ l, keyOf P kt e.key = some l := by
    intro e hm
    have h1 : (e.key, e.val) ∈ es.map (fun p => (ek p.1, p.2)) := he ▸ List.mem_map.2 ⟨e, hm, rfl⟩
    obtain ⟨p, hp, e1⟩ := List.mem_map.1 h1
    obtain ⟨l', hl'⟩ := hok p hp
    simp only [Prod.mk.injEq] at e1
    exact ⟨l', e1.1 ▸ hl'⟩
  rcases hk.find w hl arr.toList hkeys with ⟨h1, h2⟩ | ⟨j, e0, h1, h2, h3⟩
  · refine ⟨.map arr clock, by simp [Builtin.delete_, run_underlying ht, MapKept.run_getObj_map hb, hk.check w _ hl, h1, MapKept.run_setObj_map _ hb, Result.andThen, setBlock], _, _, heap_setBlock_same hb _, ?_, hs, fun p hp => hok p (mem_adel hp).1⟩
    rw [adel_none, he]
    intro p hp e1
    have h4 : (ek p.1, p.2) ∈ arr.toList.map (fun e => (e.key, e.val)) := he ▸ List.mem_map.2 ⟨p, hp, rfl⟩
    obtain ⟨e, hm, e2⟩ := List.mem_map.1 h4
    simp only [Prod.mk.injEq] at e2
    exact h2 e hm (by rw [e2.1, e1])
  · refine ⟨.map (arr.eraseIdxIfInBounds j) clock, by simp [Builtin.delete_, run_underlying ht, MapKept.run_getObj_map hb, hk.check w _ hl, h1, MapKept.run_setObj_map _ hb, Result.andThen, setBlock], _, _, heap_setBlock_same hb _, ?_, stamped_erase hs _, fun p hp => hok p (mem_adel hp).1⟩
    have hlt : j < arr.size := by have := (List.getElem?_eq_some_iff.1 h2).1; simpa using this
    rw [Array.eraseIdxIfInBounds, dif_pos hlt, Array.toList_eraseIdx]
    exact erase_entries arr.toList j e0 h2 es hinj he hnd x h3
end

/-! ### plain state -/
/-- an input -/
structure IV where
  xs : List Int
  ch : Int
  du : Int
def IV.zero : IV := ⟨[], 0, 0⟩
/-- a cached result -/
structure RV where
  xs : List Int
  ver : Int
  chg : Int
  dur : Int
  deps : List QK
  use : Int
structure PS where
  rev : Int
  l0 : Int
  l1 : Int
  l2 : Int
  cells : List (QK × IV)
  es : List (QK × RV)
  act : List (QK × Int)
  cnt : Int
  clk : Int
def PS.inp (s : PS) (k : QK) : IV := (aget s.cells k).getD IV.zero
def PS.last (s : PS) (d : Int) : Int := if d = 0 then s.l0 else if d = 1 then s.l1 else s.l2
def PS.busy (s : PS) (k : QK) : Int := (aget s.act k).getD 0
def amap {K V W : Type} (f : V → W) (es : List (K × V)) : List (K × W) := es.map fun p => (p.1, f p.2)
theorem aget_amap {K V W : Type} [DecidableEq K] (f : V → W) (es : List (K × V)) (k : K) : aget (amap f es) k = (aget es k).map f := by
  induction es with
  | nil => rfl
  | cons p r ih =>
    unfold amap at ih ⊢
    rw [List.map_cons, aget_cons, aget_cons, ih]
    split <;> rfl
theorem ups_amap {K V W : Type} [DecidableEq K] (f : V → W) (es : List (K × V)) (k : K) (c : V) : ups (amap f es) k (f c) = amap f (ups es k c) := by
  induction es with
  | nil => rfl
  | cons p r ih =>
    unfold amap at ih ⊢
    rw [List.map_cons]
    unfold ups
    simp only
    split
    · rfl
    · rw [ih]; rfl
theorem adel_amap {K V W : Type} [DecidableEq K] (f : V → W) (es : List (K × V)) (k : K) : adel (amap f es) k = amap f (adel es k) := by
  unfold adel amap
  rw [List.filter_map]
  rfl
theorem mem_amap {K V W : Type} {f : V → W} {es : List (K × V)} {p : K × W} (h : p ∈ amap f es) : ∃ v, (p.1, v) ∈ es ∧ p.2 = f v := by
  unfold amap at h
  obtain ⟨q, hq, rfl⟩ := List.mem_map.1 h
  exact ⟨q.2, hq, rfl⟩
/-! ### in memory -/
/-- a cached result: the block of its struct; its numbers (slice a, cap), when it was verified and changed, its durability, its dependencies (slice da, dcap), its last use -/
structure Rs where
  blk : Nat
  a : Option Addr
  cap : Nat
  xs : List Int
  ver : Int
  chg : Int
  dur : Int
  da : Option Addr
  dcap : Nat
  deps : List QK
  use : Int
def Rs.val (r : Rs) : Value := .pointer (some ⟨r.blk, 0, none⟩)
def Rs.pl (r : Rs) : RV := ⟨r.xs, r.ver, r.chg, r.dur, r.deps, r.use⟩
def oblk (a : Option Addr) : List Nat := a.toList.map (·.block)
def Rs.imm (r : Rs) : List Nat := oblk r.a ++ oblk r.da
def ivOf (c : Inp.CV) : IV := ⟨c.xs, c.ch, c.du⟩
/-- a database: its blocks, its function values, its state -/
structure Dm where
  bs : Nat
  bsm : Nat
  br : Nat
  ba : Nat
  comp : Value
  stop : Value
  S : Inp.St
  es : List (QK × Rs)
  act : List (QK × Int)
  cnt : Int
  clk : Int
def Dm.pl (d : Dm) : PS := ⟨d.S.rev, d.S.l0, d.S.l1, d.S.l2, amap ivOf d.S.es, amap Rs.pl d.es, d.act, d.cnt, d.clk⟩
/-- the blocks that the database writes -/
def Dm.muts (d : Dm) (b : Nat) : List Nat := b :: d.bs :: d.bsm :: d.br :: d.ba :: d.es.map (·.2.blk)
/-- the blocks that it only reads -/
def Dm.imms (d : Dm) : List Nat := d.S.es.flatMap (fun p => oblk p.2.a) ++ d.es.flatMap (fun p => p.2.imm)
structure RsAt (w : World) (r : Rs) : Prop where
  blk : w.heap[r.blk]? = some (.cells #[.slice r.a r.xs.length r.cap, .string ⟨#[]⟩, .int .i64 r.ver, .int .i64 r.chg, .int .i64 r.dur, .slice r.da r.deps.length r.dcap, .int .i64 r.use] 153 (0, 0))
  nums : Inp.Ints w (.slice r.a r.xs.length r.cap) r.xs
  size : r.xs.length * 8 ≤ 140737488355328
  deps : I3s (fun _ => True) w (.slice r.da r.deps.length r.dcap) r.deps
structure DmAt (w : World) (b : Nat) (d : Dm) : Prop where
  blk : w.heap[b]? = some (.cells #[d.comp, .pointer (some ⟨d.bs, 0, none⟩), .map (some d.br), .map (some d.ba), d.stop, .int .i64 d.cnt, .int .i64 d.clk] 115 (0, 0))
  store : Inp.StoreIs w d.bs d.bsm d.S
  text : ∀ p ∈ d.S.es, p.2.tx = ⟨#[]⟩
  res : MapAt Try.prog 43 Inp.qk w d.br (amap Rs.val d.es)
  act : MapAt Try.prog 43 Inp.qk w d.ba (amap (Value.int .i64) d.act)
  each : ∀ p ∈ d.es, RsAt w p.2
  nodup : (d.muts b).Nodup
  apart : ∀ g ∈ d.imms, g ∉ d.muts b
  bound : ∀ g ∈ d.imms, g < w.heap.size
theorem intsKept' {w w' : World} {a : Option Addr} {n cap : Nat} {xs : List Int} (h : Inp.Ints w (.slice a n cap) xs) (hb : ∀ g ∈ oblk a, w'.heap[g]? = w.heap[g]?) : Inp.Ints w' (.slice a n cap) xs := by
  rcases h with h | ⟨g, off, cap', c, fr, hv, h1, h2, h3, h4⟩
  · exact .inl h
  · refine .inr ⟨g, off, cap', c, fr, hv, h1, h2, ?_, h4⟩
    simp only [Value.slice.injEq] at hv
    exact (hb _ (by rw [hv.1]; simp [oblk])).trans h3
theorem i3sKept' {w w' : World} {a : Option Addr} {n cap : Nat} {xs : List I3} (h : I3s (fun _ => True) w (.slice a n cap) xs) (hb : ∀ g ∈ oblk a, w'.heap[g]? = w.heap[g]?) : I3s (fun _ => True) w' (.slice a n cap) xs := by
  obtain ⟨a', cap', hv, h1, h2, h3⟩ := h
  refine ⟨a', cap', hv, h1, h2, fun h0 => ?_⟩
  obtain ⟨g, off, rfl, hg, hc⟩ := h3 h0
  simp only [Value.slice.injEq] at hv
  have e := hb g (by rw [hv.1]; simp [oblk])
  refine ⟨g, off, rfl, trivial, fun j hj => ?_⟩
  obtain ⟨x1, x2, x3⟩ := hc j hj
  have e' : ∀ o, w'.cell? ⟨g, o, none⟩ = w.cell? ⟨g, o, none⟩ := fun o => World.cell?_of_block e
  exact ⟨(e' _).trans x1, (e' _).trans x2, (e' _).trans x3⟩
theorem RsAt.kept {w w' : World} {r : Rs} (h : RsAt w r) (hb : w'.heap[r.blk]? = w.heap[r.blk]?) (hi : ∀ g ∈ r.imm, w'.heap[g]? = w.heap[g]?) : RsAt w' r :=
  ⟨hb.trans h.blk, intsKept' h.nums fun g hg => hi g (List.mem_append_left _ hg), h.size, i3sKept' h.deps fun g hg => hi g (List.mem_append_right _ hg)⟩
theorem Dm.imm_mem {d : Dm} {p : QK × Rs} (hp : p ∈ d.es) {g : Nat} (hg : g ∈ p.2.imm) : g ∈ d.imms := List.mem_append_right _ (List.mem_flatMap.2 ⟨p, hp, hg⟩)
theorem Dm.imm_store {d : Dm} {p : QK × Inp.CV} (hp : p ∈ d.S.es) {g : Nat} (hg : g ∈ oblk p.2.a) : g ∈ d.imms := List.mem_append_left _ (List.mem_flatMap.2 ⟨p, hp, hg⟩)
theorem Dm.mut_mem {d : Dm} {b : Nat} {p : QK × Rs} (hp : p ∈ d.es) : p.2.blk ∈ d.muts b := by
  unfold Dm.muts
  simp only [List.mem_cons]
  exact .inr (.inr (.inr (.inr (.inr (List.mem_map.2 ⟨p, hp, rfl⟩)))))
theorem DmAt.lt {w : World} {b : Nat} {d : Dm} (h : DmAt w b d) : ∀ g ∈ d.muts b, g < w.heap.size := by
  intro g hg
  unfold Dm.muts at hg
  simp only [List.mem_cons, List.mem_map] at hg
  rcases hg with rfl | rfl | rfl | rfl | rfl | ⟨p, hp, rfl⟩
  · exact lt_of_obj h.blk
  · exact lt_of_obj h.store.blk
  · exact h.store.map.lt
  · exact h.res.lt
  · exact h.act.lt
  · exact lt_of_obj (h.each p hp).blk
theorem DmAt.keptB {w w' : World} {b : Nat} {d : Dm} (h : DmAt w b d) (hs : w.heap.size ≤ w'.heap.size) (hm : ∀ g ∈ d.muts b, w'.heap[g]? = w.heap[g]?) (hi : ∀ g ∈ d.imms, w'.heap[g]? = w.heap[g]?) : DmAt w' b d := by
  have hst : Inp.StoreIs w' d.bs d.bsm d.S := ⟨(hm _ (by simp [Dm.muts])).trans h.store.blk, h.store.map.of_block (hm _ (by simp [Dm.muts])), fun p hp => ⟨intsKept' (h.store.vals p hp).1 fun g hg => hi g (Dm.imm_store hp hg), (h.store.vals p hp).2⟩⟩
  exact ⟨(hm _ (by simp [Dm.muts])).trans h.blk, hst, h.text, h.res.of_block (hm _ (by simp [Dm.muts])), h.act.of_block (hm _ (by simp [Dm.muts])), fun p hp => (h.each p hp).kept (hm _ (Dm.mut_mem hp)) fun g hg => hi g (Dm.imm_mem hp hg), h.nodup, h.apart, fun g hg => Nat.lt_of_lt_of_le (h.bound g hg) hs⟩
theorem DmAt.kept {S : Nat → Prop} {w w' : World} {b : Nat} {d : Dm} (h : DmAt w b d) (hc : ChgP S w w') (hm : ∀ g ∈ d.muts b, ¬ S g) (hi : ∀ g ∈ d.imms, ¬ S g) : DmAt w' b d :=
  h.keptB hc.size (fun g hg => hc.block g (h.lt g hg) (hm g hg)) (fun g hg => hc.block g (h.bound g hg) (hi g hg))
theorem DmAt.new {w w' : World} {b : Nat} {d : Dm} (h : DmAt w b d) (hc : Chg [] w w') : DmAt w' b d := h.kept hc.toP (by simp) (by simp)
end Go.Proofs.Ytggiddhhbilcjaa
/- What an evaluation does, plainly; what it leaves of the database in memory. -/
namespace Go.Proofs.Ytggiddhhbilcjaa
open Go.RowKit
set_option linter.unusedVariables false
/-! ### plain -/
section
variable (U : PS → QK → Except Int Unit × PS)
def PS.res (s : PS) (k : QK) : RV := (aget s.es k).getD ⟨[], 0, 0, 0, [], 0⟩
/-- has key changed since rev? -/
def chgSince (s : PS) (k : QK) (rev : Int) : Except Int Bool × PS :=
  if k.1 = 0 then (.ok (decide (rev < (s.inp k).ch)), s)
  else match U s k with
    | (.ok _, s') => (.ok (decide (rev < (s'.res k).chg)), s')
    | (.error x, s') => (.error x, s')
def anyChg (rev : Int) : List QK → PS → Except Int Bool × PS
  | [], s => (.ok false, s)
  | k :: l, s => match chgSince U s k rev with
    | (.ok true, s') => (.ok true, s')
    | (.ok false, s') => anyChg rev l s'
    | (.error x, s') => (.error x, s')
def validP (s : PS) (r : RV) : Except Int Bool × PS :=
  if r.ver = s.rev ∨ s.last r.dur ≤ r.ver then (.ok true, s)
  else match anyChg U r.ver r.deps s with
    | (.ok t, s') => (.ok (!t), s')
    | (.error x, s') => (.error x, s')
/-- a get under way: the database, the dependencies so far, the durability so far -/
abbrev GS := PS × List QK × Int
def getP (σ : GS) (k : QK) : Except Int (List Int) × GS :=
  if k.1 = 0 then (.ok (σ.1.inp k).xs, (σ.1, addK σ.2.1 k, min σ.2.2 (σ.1.inp k).du))
  else match U σ.1 k with
    | (.ok _, s') => (.ok (s'.res k).xs, (s', addK σ.2.1 k, min σ.2.2 (s'.res k).dur))
    | (.error x, s') => (.error x, (s', σ.2))
variable (C : QK → (GS → QK → Except Int (List Int) × GS) → GS → Except Int (List Int) × GS) (stop : PS → Bool)
def newRes (s : PS) (k : QK) (rev : Int) (xs : List Int) (deps : List QK) (dur : Int) : RV :=
  ⟨xs, rev, match aget s.es k with
    | some old => if old.dur ≤ dur ∧ old.xs = xs then old.chg else rev
    | none => rev, dur, deps, 0⟩
def recompP (s : PS) (k : QK) : Except Int Unit × PS :=
  if stop s = true then (.error 12, s)
  else match C k (getP U) (s, [], 2) with
    | (.ok xs, (s', deps, dur)) => (.ok (), { s' with es := ups s'.es k (newRes s' k s.rev xs deps dur), cnt := wrap64 (s'.cnt + 1) })
    | (.error x, (s', _)) => (.error x, s')
/-- the end of update -/
def finP (s : PS) (k : QK) : PS :=
  { s with es := ups s.es k { s.res k with ver := s.rev, use := wrap64 (s.clk + 1) }, clk := wrap64 (s.clk + 1), act := adel s.act k }
def thenFin (k : QK) : Except Int Unit × PS → Except Int Unit × PS
  | (.ok _, s) => (.ok (), finP s k)
  | (.error x, s) => (.error x, s)
def updP (s : PS) (k : QK) : Except Int Unit × PS :=
  if s.busy k ≠ 0 then (.error 8, s)
  else
    let s1 : PS := { s with act := ups s.act k 1 }
    match aget s1.es k with
    | none => thenFin k (recompP U C stop s1 k)
    | some r => match validP U s1 r with
      | (.ok true, s2) => (.ok (), finP s2 k)
      | (.ok false, s2) => thenFin k (recompP U C stop s2 k)
      | (.error x, s2) => (.error x, s2)
end
/-! ### in memory -/
/-- what an evaluation leaves -/
structure Next (b : Nat) (w w' : World) (d d' : Dm) : Prop where
  mem : DmAt w' b d'
  chg : ChgP (fun g => g ∈ d.muts b) w w'
  muts : ∀ g ∈ d'.muts b, g ∈ d.muts b ∨ w.heap.size ≤ g
  imms : ∀ g ∈ d'.imms, g ∈ d.imms ∨ w.heap.size ≤ g
  comp : d'.comp = d.comp
  stop : d'.stop = d.stop
  store : d'.S = d.S
  bs : d'.bs = d.bs
  bsm : d'.bsm = d.bsm
  br : d'.br = d.br
  ba : d'.ba = d.ba
  busy : ∀ k v, aget d.act k = some v → aget d'.act k = some v ∧ aget d'.es k = aget d.es k
theorem Next.new {b : Nat} {w w' : World} {d : Dm} (h : DmAt w b d) (hc : Chg [] w w') : Next b w w' d d :=
  ⟨h.new hc, hc.p, fun _ h => .inl h, fun _ h => .inl h, rfl, rfl, rfl, rfl, rfl, rfl, rfl, fun _ _ h => ⟨h, rfl⟩⟩
theorem Next.refl {b : Nat} {w : World} {d : Dm} (h : DmAt w b d) : Next b w w d d := Next.new h (Chg.refl _ _)
theorem Next.trans {b : Nat} {w w1 w2 : World} {d d1 d2 : Dm} (h : Next b w w1 d d1) (k : Next b w1 w2 d1 d2) : Next b w w2 d d2 where
  mem := k.mem
  chg := h.chg.comp k.chg h.muts
  muts g hg := (k.muts g hg).elim (h.muts g) fun hs => .inr (Nat.le_trans h.chg.size hs)
  imms g hg := (k.imms g hg).elim (h.imms g) fun hs => .inr (Nat.le_trans h.chg.size hs)
  comp := k.comp.trans h.comp
  stop := k.stop.trans h.stop
  store := k.store.trans h.store
  bs := k.bs.trans h.bs
  bsm := k.bsm.trans h.bsm
  br := k.br.trans h.br
  ba := k.ba.trans h.ba
  busy x v hx := by
    obtain ⟨h1, h2⟩ := h.busy x v hx
    obtain ⟨k1, k2⟩ := k.busy x v h1
    exact ⟨k1, k2.trans h2⟩
theorem Next.thenNew {b : Nat} {w w1 w2 : World} {d d1 : Dm} (h : Next b w w1 d d1) (hc : Chg [] w1 w2) : Next b w w2 d d1 := h.trans (Next.new h.mem hc)
theorem Next.afterNew {b : Nat} {w w1 w2 : World} {d d2 : Dm} (h : DmAt w b d) (hc : Chg [] w w1) (k : Next b w1 w2 d d2) : Next b w w2 d d2 := (Next.new h hc).trans k
/-- a block that is none of the database's stays -/
theorem Next.other {b : Nat} {w w' : World} {d d' : Dm} (h : Next b w w' d d') {g : Nat} (hg : g < w.heap.size) (hn : g ∉ d.muts b) : w'.heap[g]? = w.heap[g]? ∧ g ∉ d'.muts b ∧ g < w'.heap.size :=
  ⟨h.chg.block g hg hn, fun hm => (h.muts g hm).elim hn fun hs => absurd hg (Nat.not_lt.2 hs), Nat.lt_of_lt_of_le hg h.chg.size⟩
/-- the ground of an evaluation: blocks that nobody writes -/
structure Env (w0 : World) (RO : Nat → Prop) (b : Nat) (w : World) (d : Dm) : Prop where
  mem : DmAt w b d
  ro : ∀ g, RO g → g < w.heap.size ∧ w.heap[g]? = w0.heap[g]? ∧ g ∉ d.muts b
theorem Env.next {w0 : World} {RO : Nat → Prop} {b : Nat} {w w' : World} {d d' : Dm} (h : Env w0 RO b w d) (k : Next b w w' d d') : Env w0 RO b w' d' :=
  ⟨k.mem, fun g hg => by
    obtain ⟨h1, h2, h3⟩ := h.ro g hg
    obtain ⟨k1, k2, k3⟩ := k.other h1 h3
    exact ⟨k3, k1.trans h2, k2⟩⟩
theorem Env.new {w0 : World} {RO : Nat → Prop} {b : Nat} {w w' : World} {d : Dm} (h : Env w0 RO b w d) (hc : Chg [] w w') : Env w0 RO b w' d := h.next (Next.new h.mem hc)
/-- what update brings -/
def UPost (U : PS → QK → Except Int Unit × PS) (ch : Int → List PanicEntry) (b : Nat) (k : QK) (w : World) (d : Dm) (e : Ending) (w' : World) : Prop :=
  ∃ d', Next b w w' d d' ∧ d'.pl = (U d.pl k).2 ∧ match (U d.pl k).1 with
    | .ok _ => ∃ r, aget d'.es k = some r ∧ e = .returned r.val
    | .error x => e = .panicked (ch x)
/-- what a test brings -/
def BPost (R : PS → Except Int Bool × PS) (ch : Int → List PanicEntry) (b : Nat) (w : World) (d : Dm) (e : Ending) (w' : World) : Prop :=
  ∃ d', Next b w w' d d' ∧ d'.pl = (R d.pl).2 ∧ match (R d.pl).1 with
    | .ok t => e = .returned (.bool t)
    | .error x => e = .panicked (ch x)
theorem UPost.ok {U : PS → QK → Except Int Unit × PS} {ch : Int → List PanicEntry} {b : Nat} {k : QK} {w w' : World} {d : Dm} {e : Ending} (h : UPost U ch b k w d e w') {u : Unit} {s' : PS} (hu : U d.pl k = (.ok u, s')) :
    ∃ d' r, e = .returned r.val ∧ Next b w w' d d' ∧ d'.pl = s' ∧ aget d'.es k = some r := by
  obtain ⟨d', h1, h2, h3⟩ := h
  rw [hu] at h2 h3
  obtain ⟨r, h4, h5⟩ := h3
  exact ⟨d', r, h5, h1, h2, h4⟩
theorem UPost.err {U : PS → QK → Except Int Unit × PS} {ch : Int → List PanicEntry} {b : Nat} {k : QK} {w w' : World} {d : Dm} {e : Ending} (h : UPost U ch b k w d e w') {x : Int} {s' : PS} (hu : U d.pl k = (.error x, s')) :
    ∃ d', e = .panicked (ch x) ∧ Next b w w' d d' ∧ d'.pl = s' := by
  obtain ⟨d', h1, h2, h3⟩ := h
  rw [hu] at h2 h3
  exact ⟨d', h3, h1, h2⟩
theorem UPost.mkOk {U : PS → QK → Except Int Unit × PS} {ch : Int → List PanicEntry} {b : Nat} {k : QK} {w w' : World} {d d' : Dm} {e : Ending} {r : Rs} {u : Unit} (hu : U d.pl k = (.ok u, d'.pl)) (hn : Next b w w' d d') (hr : aget d'.es k = some r) (he : e = .returned r.val) : UPost U ch b k w d e w' := by
  refine ⟨d', hn, by rw [hu], ?_⟩
  rw [hu]
  exact ⟨r, hr, he⟩
theorem UPost.mkErr {U : PS → QK → Except Int Unit × PS} {ch : Int → List PanicEntry} {b : Nat} {k : QK} {w w' : World} {d d' : Dm} {e : Ending} {x : Int} (hu : U d.pl k = (.error x, d'.pl)) (hn : Next b w w' d d') (he : e = .panicked (ch x)) : UPost U ch b k w d e w' := by
  refine ⟨d', hn, by rw [hu], ?_⟩
  rw [hu]
  exact he
theorem BPost.ok {R : PS → Except Int Bool × PS} {ch : Int → List PanicEntry} {b : Nat} {w w' : World} {d : Dm} {e : Ending} (h : BPost R ch b w d e w') {t : Bool} {s' : PS} (hu : R d.pl = (.ok t, s')) :
    ∃ d', e = .returned (.bool t) ∧ Next b w w' d d' ∧ d'.pl = s' := by
  obtain ⟨d', h1, h2, h3⟩ := h
  rw [hu] at h2 h3
  exact ⟨d', h3, h1, h2⟩
theorem BPost.err {R : PS → Except Int Bool × PS} {ch : Int → List PanicEntry} {b : Nat} {w w' : World} {d : Dm} {e : Ending} (h : BPost R ch b w d e w') {x : Int} {s' : PS} (hu : R d.pl = (.error x, s')) :
    ∃ d', e = .panicked (ch x) ∧ Next b w w' d d' ∧ d'.pl = s' := by
  obtain ⟨d', h1, h2, h3⟩ := h
  rw [hu] at h2 h3
  exact ⟨d', h3, h1, h2⟩
theorem BPost.mkOk {R : PS → Except Int Bool × PS} {ch : Int → List PanicEntry} {b : Nat} {w w' : World} {d d' : Dm} {e : Ending} {t : Bool} (hu : R d.pl = (.ok t, d'.pl)) (hn : Next b w w' d d') (he : e = .returned (.bool t)) : BPost R ch b w d e w' := by
  refine ⟨d', hn, by rw [hu], ?_⟩
  rw [hu]
  exact he
theorem BPost.mkErr {R : PS → Except Int Bool × PS} {ch : Int → List PanicEntry} {b : Nat} {w w' : World} {d d' : Dm} {e : Ending} {x : Int} (hu : R d.pl = (.error x, d'.pl)) (hn : Next b w w' d d') (he : e = .panicked (ch x)) : BPost R ch b w d e w' := by
  refine ⟨d', hn, by rw [hu], ?_⟩
  rw [hu]
  exact he
/-- an update that may be relied on, at the keys of K -/
structure UFam (w0 : World) (RO : Nat → Prop) (b : Nat) (comp stop : Value) (K : PS → QK → Prop) (U : PS → QK → Except Int Unit × PS) (ch : Int → List PanicEntry) : Prop where
  call : ∀ w d k, Env w0 RO b w d → d.comp = comp → d.stop = stop → K d.pl k → Calls Try.prog 77 #[.pointer (some ⟨b, 0, none⟩), i3v k] w (UPost U ch b k w d)
  keep : ∀ s k k', K s k → K s k' → K (U s k).2 k'
  kind : ∀ s k, K s k → k.1 ≠ 0 ∧ Inp.QKok k
/-- facts on the database's parts -/
theorem Dm.aget_pl {d : Dm} (k : QK) : aget d.pl.es k = (aget d.es k).map Rs.pl := aget_amap _ _ _
theorem Dm.res_pl {d : Dm} {k : QK} {r : Rs} (h : aget d.es k = some r) : d.pl.res k = r.pl := by
  unfold PS.res
  rw [Dm.aget_pl, h]
  rfl
theorem Dm.inp_pl {d : Dm} (k : QK) : d.pl.inp k = ivOf (d.S.at k) := by
  unfold PS.inp Inp.St.at
  rw [show d.pl.cells = amap ivOf d.S.es from rfl, aget_amap]
  cases aget d.S.es k <;> rfl
theorem DmAt.tx {w : World} {b : Nat} {d : Dm} (h : DmAt w b d) (k : QK) : (d.S.at k).tx = ⟨#[]⟩ := by
  unfold Inp.St.at
  cases hk : aget d.S.es k with
  | none => rfl
  | some c => exact h.text _ (aget_mem hk)
theorem DmAt.rs {w : World} {b : Nat} {d : Dm} (h : DmAt w b d) {k : QK} {r : Rs} (hr : aget d.es k = some r) : RsAt w r := h.each _ (aget_mem hr)
end Go.Proofs.Ytggiddhhbilcjaa
/- changedSince. -/
namespace Go.Proofs.Ytggiddhhbilcjaa
open Go.RowKit
set_option linter.unusedVariables false
section
variable {w0 : World} {RO : Nat → Prop} {b : Nat} {comp stop : Value} {K : PS → QK → Prop} {U : PS → QK → Except Int Unit × PS} {ch : Int → List PanicEntry}
set_option maxHeartbeats 1000000 in
theorem changedSince_inp (w : World) (d : Dm) (k : QK) (rev : Int) (h : DmAt w b d) (hk : Inp.QKok k) (h0 : k.1 = 0) :
    Calls Try.prog 106 #[.pointer (some ⟨b, 0, none⟩), i3v k, .int .i64 rev] w fun e w' => e = .returned (.bool (decide (rev < (d.pl.inp k).ch))) ∧ Chg [] w w' := by
  have Hch := Lib.hid (show (d.pl.inp k).ch = (d.S.at k).ch by rw [Dm.inp_pl]; rfl)
  have q1 : w.cell? ⟨b, 1, none⟩ = some (.pointer (some ⟨d.bs, 0, none⟩)) := cell_of_heap h.blk rfl
  have lb := lt_of_obj h.blk
  have hne := World.new_ne w _ q1
  have hb2 : b < w.heap.size + 1 := by omega
  have hb3 : b < w.heap.size + 2 := by omega
  have hb4 : b < w.heap.size + 1 + 1 := by omega
  have Hs := Lib.hid h.store
  have Hk := Lib.hid hk
  obtain ⟨k1, k2, k3⟩ := k
  obtain rfl : k1 = 0 := h0
  clear h hk
  unfold i3v
  go_enter Try.func106, Try.ntmps106
  go_wp2_with fail
  go_region_held3 (fun w' => w'.cell? ⟨b, 1, none⟩ = some (.pointer (some ⟨d.bs, 0, none⟩)) ∧ w'.cell? ⟨w.heap.size, 0, none⟩ = some (.int .i64 0) ∧ w'.cell? ⟨w.heap.size, 1, none⟩ = some (.int .i64 k2) ∧ w'.cell? ⟨w.heap.size, 2, none⟩ = some (.int .i64 k3))
    (first | (go_keep; done) | (refine ⟨?_, ?_, ?_, ?_⟩ <;> (simp [go_sem, *]; done)) | (refine ⟨?_, ?_, ?_, ?_⟩ <;> (rw [hc1.cell (by simp; try omega) (by simp)]; simp [go_sem, *]; done)))
    (first
      | (go_at_call 74; refine (Inp.get_any d.bs d.bsm d.S (0, k2, k3) _ (Hs.out.same (by exact (((Chg.refl [] w).alloc _).alloc _).drew)) Hk.out).mono ?_; rintro e w1 ⟨a1, c1, rfl, hi1, hn1, hc1⟩; have bq := hc1.block (w.heap.size + 1) (by first | (simp; done) | (simp; omega)) (by simp); have r0 : w1.cell? ⟨w.heap.size + 1, 0, none⟩ = some (.slice none 0 0) := (World.cell?_of_block bq).trans (by simp [go_sem]); have r1 : w1.cell? ⟨w.heap.size + 1, 1, none⟩ = some (.string ⟨#[]⟩) := (World.cell?_of_block bq).trans (by simp [go_sem]); have f0 : w1.frozen? ⟨w.heap.size + 1, 0, none⟩ = false := (World.frozen?_of_block bq).trans (by simp [go_sem]); have f1 : w1.frozen? ⟨w.heap.size + 1, 1, none⟩ = false := (World.frozen?_of_block bq).trans (by simp [go_sem]); have hcw : Chg [] w w1 := (((Chg.refl [] w).alloc _).alloc _).drew.new hc1; have k0 : w1.cell? ⟨b, 1, none⟩ = some (.pointer (some ⟨d.bs, 0, none⟩)) := (hcw.cell (p := ⟨b, 1, none⟩) lb (by simp)).trans q1; have k1' : w1.cell? ⟨w.heap.size, 0, none⟩ = some (.int .i64 0) := (hc1.cell (p := ⟨w.heap.size, 0, none⟩) (by first | (simp; done) | (simp; omega)) (by simp)).trans (by simp [go_sem]); have k2' : w1.cell? ⟨w.heap.size, 1, none⟩ = some (.int .i64 k2) := (hc1.cell (p := ⟨w.heap.size, 1, none⟩) (by first | (simp; done) | (simp; omega)) (by simp)).trans (by simp [go_sem]); have k3' : w1.cell? ⟨w.heap.size, 2, none⟩ = some (.int .i64 k3) := (hc1.cell (p := ⟨w.heap.size, 2, none⟩) (by first | (simp; done) | (simp; omega)) (by simp)).trans (by simp [go_sem]))
      | (go_at_call 74; refine (Inp.get_any d.bs d.bsm d.S (0, k2, k3) _ (Hs.out.same (by exact ((Chg.refl [] w).alloc _).drew)) Hk.out).mono ?_; rintro e w1 ⟨a1, c1, rfl, hi1, hn1, hc1⟩; have hcw : Chg [] w w1 := ((Chg.refl [] w).alloc _).drew.new hc1; have k0 : w1.cell? ⟨b, 1, none⟩ = some (.pointer (some ⟨d.bs, 0, none⟩)) := (hcw.cell (p := ⟨b, 1, none⟩) lb (by simp)).trans q1; have k1' : w1.cell? ⟨w.heap.size, 0, none⟩ = some (.int .i64 0) := (hc1.cell (p := ⟨w.heap.size, 0, none⟩) (by first | (simp; done) | (simp; omega)) (by simp)).trans (by simp [go_sem]); have k2' : w1.cell? ⟨w.heap.size, 1, none⟩ = some (.int .i64 k2) := (hc1.cell (p := ⟨w.heap.size, 1, none⟩) (by first | (simp; done) | (simp; omega)) (by simp)).trans (by simp [go_sem]); have k3' : w1.cell? ⟨w.heap.size, 2, none⟩ = some (.int .i64 k3) := (hc1.cell (p := ⟨w.heap.size, 2, none⟩) (by first | (simp; done) | (simp; omega)) (by simp)).trans (by simp [go_sem])))
  all_goals
    go_wp2
    go_ret
    refine ⟨by rw [Hch.out]; rfl, ?_⟩
    have hz := hcw.size
    repeat (first | exact hcw | apply Chg.drew | apply Chg.alloc | refine Chg.setCell ?_ (Or.inr (by first | (simp; done) | (simp; omega))) _)
set_option maxHeartbeats 1000000 in
theorem changedSince_any (fam : UFam w0 RO b comp stop K U ch) (w : World) (d : Dm) (k : QK) (rev : Int) (h : Env w0 RO b w d) (hc : d.comp = comp) (hs : d.stop = stop) (hk : Inp.QKok k) (hK : k.1 ≠ 0 → K d.pl k) :
    Calls Try.prog 106 #[.pointer (some ⟨b, 0, none⟩), i3v k, .int .i64 rev] w (BPost (fun s => chgSince U s k rev) ch b w d) := by
  by_cases h0 : k.1 = 0
  · refine (changedSince_inp w d k rev h.mem hk h0).mono ?_
    rintro e w' ⟨he, hw⟩
    exact BPost.mkOk (d' := d) (t := decide (rev < (d.pl.inp k).ch)) (by unfold chgSince; rw [if_pos h0]) (Next.new h.mem hw) he
  · have hok : ∀ u s', U d.pl k = (.ok u, s') → chgSince U d.pl k rev = (.ok (decide (rev < (s'.res k).chg)), s') := fun u s' e => by unfold chgSince; rw [if_neg h0, e]
    have herr : ∀ x s', U d.pl k = (.error x, s') → chgSince U d.pl k rev = (.error x, s') := fun x s' e => by unfold chgSince; rw [if_neg h0, e]
    have hcall := fun w' (hw : Chg [] w w') => fam.call w' d k (h.new hw) hc hs (hK h0)
    have b0 : (k.1 == 0) = false := by simpa using h0
    obtain ⟨k1, k2, k3⟩ := k
    simp only at b0
    have Hok := Lib.hid hok
    have Herr := Lib.hid herr
    have Hcall := Lib.hid hcall
    have Hm := Lib.hid h.mem
    clear hok herr hcall h hK h0 hk
    unfold i3v at Hcall ⊢
    go_enter Try.func106, Try.ntmps106
    go_wp2_with fail
    refine (Hcall.out _ (by exact (Chg.refl [] w).alloc _)).mono ?_
    rintro e w1 hp
    rcases hu : U d.pl (k1, k2, k3) with ⟨_ | u, s'⟩
    · obtain ⟨d', rfl, hn, rfl⟩ := hp.err hu
      have Hu := Lib.hid hu
      clear hu
      go_wp2
      exact ⟨rfl, BPost.mkErr (R := fun s => chgSince U s (k1, k2, k3) rev) (Herr.out _ _ Hu.out) (Next.afterNew Hm.out ((Chg.refl [] w).alloc _) hn) rfl⟩
    · obtain ⟨d', r, rfl, hn, rfl, hr⟩ := hp.ok hu
      have Hu := Lib.hid hu
      have q2 : w1.cell? ⟨r.blk, 3, none⟩ = some (.int .i64 r.chg) := cell_of_heap (hn.mem.rs hr).blk rfl
      have Hn := Lib.hid hn
      have Hr := Lib.hid hr
      clear hu hn hr hp
      unfold Rs.val
      go_wp2
      go_ret
      exact BPost.mkOk (R := fun s => chgSince U s (k1, k2, k3) rev) (t := decide (rev < r.chg)) (by have := Hok.out _ _ Hu.out; rw [Dm.res_pl Hr.out] at this; exact this) (Next.afterNew Hm.out ((Chg.refl [] w).alloc _) Hn.out) rfl
end
end Go.Proofs.Ytggiddhhbilcjaa
/- valid: its closure, ContainsFunc over it. -/
namespace Go.Proofs.Ytggiddhhbilcjaa
open Go.RowKit
set_option linter.unusedVariables false
/-- a region whose first n operations only read, the rest in forced order: the text's order, in a world of its own -/
theorem wp_region_reads {P : Program} {id : Nat} {Q : Exit → Act → World → Prop} {a : Act} {w : World} {l : List Oper} (n : Nat) (hm : P.follows .mixedOrders = true) (hB : Region.lexTailB .any l.toArray n = true)
    (h : ∀ W : World, W = w.drew → wpStill P l.toArray W (fun a' => wpList P l.toArray Q (l.drop n) a' W) (l.take n) a) : (Code.region id l.toArray true).wp P Q a w :=
  wp_region_still_tail n hm hB (h _ rfl)
section
variable {w0 : World} {RO : Nat → Prop} {b : Nat} {comp stop : Value} {K : PS → QK → Prop} {U : PS → QK → Except Int Unit × PS} {ch : Int → List PanicEntry}
set_option maxRecDepth 100000 in
set_option maxHeartbeats 1000000 in
theorem valid1_any (fam : UFam w0 RO b comp stop K U ch) (w : World) (d : Dm) (k : QK) (bd br : Nat) (r : Rs) (h : Env w0 RO b w d) (hc : d.comp = comp) (hs : d.stop = stop) (hk : Inp.QKok k) (hK : k.1 ≠ 0 → K d.pl k)
    (hd : w.cell? ⟨bd, 0, none⟩ = some (.pointer (some ⟨b, 0, none⟩))) (hr : w.cell? ⟨br, 0, none⟩ = some r.val) (hv : w.cell? ⟨r.blk, 2, none⟩ = some (.int .i64 r.ver)) :
    Calls Try.prog 105 #[i3v k, .pointer (some ⟨bd, 0, none⟩), .pointer (some ⟨br, 0, none⟩)] w (BPost (fun s => chgSince U s k r.ver) ch b w d) := by
  have hcall := fun w' (hw : Chg [] w w') => changedSince_any fam w' d k r.ver (h.new hw) hc hs hk hK
  have ld := lt_of_cell hd
  have lr := lt_of_cell hr
  have lv := lt_of_cell hv
  obtain ⟨k1, k2, k3⟩ := k
  have Hcall := Lib.hid hcall
  have Hm := Lib.hid h.mem
  clear hcall h hK hk fam
  unfold i3v at Hcall ⊢
  unfold Rs.val at hr
  go_enter Try.func105, Try.ntmps105
  go_wp2_with fail
  refine wp_region_reads 6 (by kernel_rfl) (by kernel_rfl) ?_
  simp only [List.take_succ_cons, List.take_zero, List.drop_succ_cons, List.drop_zero]
  intro wd hwd
  have hcd : Chg [] w wd := by rw [hwd]; exact ((Chg.refl [] w).alloc _).drew
  have e0 : wd.cell? ⟨bd, 0, none⟩ = some (.pointer (some ⟨b, 0, none⟩)) := (hcd.cell ld (by simp)).trans hd
  have e1 : wd.cell? ⟨br, 0, none⟩ = some (.pointer (some ⟨r.blk, 0, none⟩)) := (hcd.cell lr (by simp)).trans hr
  have e2 : wd.cell? ⟨r.blk, 2, none⟩ = some (.int .i64 r.ver) := (hcd.cell lv (by simp)).trans hv
  have e3 : wd.cell? ⟨w.heap.size, 0, none⟩ = some (.int .i64 k1) := by rw [hwd]; exact cell_of_heap (heap_at _ _ _ rfl) rfl
  have e4 : wd.cell? ⟨w.heap.size, 1, none⟩ = some (.int .i64 k2) := by rw [hwd]; exact cell_of_heap (heap_at _ _ _ rfl) rfl
  have e5 : wd.cell? ⟨w.heap.size, 2, none⟩ = some (.int .i64 k3) := by rw [hwd]; exact cell_of_heap (heap_at _ _ _ rfl) rfl
  clear hwd
  repeat still_step
  refine wpStill_nil ?_
  go_wp2_with fail
  refine (Hcall.out _ hcd).mono ?_
  rintro e w1 hp
  have Hp := Lib.hid hp
  rcases hu : chgSince U d.pl (k1, k2, k3) r.ver with ⟨_ | t, s'⟩
  · obtain ⟨d', rfl, hn, rfl⟩ := hp.err hu
    have Hu := Lib.hid hu
    clear hu hp
    go_wp2
    exact ⟨rfl, BPost.mkErr (R := fun s => chgSince U s (k1, k2, k3) r.ver) Hu.out (Next.afterNew Hm.out hcd hn) rfl⟩
  · obtain ⟨d', rfl, hn, rfl⟩ := hp.ok hu
    have Hu := Lib.hid hu
    have Hn := Lib.hid hn
    clear hu hp hn
    go_wp2
    go_ret
    exact BPost.mkOk (R := fun s => chgSince U s (k1, k2, k3) r.ver) (t := t) Hu.out (Next.afterNew Hm.out hcd Hn.out) rfl
theorem chg_keep (fam : UFam w0 RO b comp stop K U ch) {s : PS} {k : QK} {rev : Int} {l : List QK} (h : ∀ k ∈ l, Inp.QKok k ∧ (k.1 ≠ 0 → K s k)) (hk : k ∈ l) : ∀ k' ∈ l, Inp.QKok k' ∧ (k'.1 ≠ 0 → K (chgSince U s k rev).2 k') := by
  intro k' hk'
  refine ⟨(h k' hk').1, fun h0 => ?_⟩
  unfold chgSince
  by_cases e : k.1 = 0
  · rw [if_pos e]; exact (h k' hk').2 h0
  · rw [if_neg e]
    have := fam.keep s k k' ((h k hk).2 e) ((h k' hk').2 h0)
    rcases hu : U s k with ⟨_ | u, s'⟩ <;> rw [hu] at this <;> exact this
theorem anyChg_yes {rev : Int} {k : QK} {l : List QK} {s s' : PS} (h : chgSince U s k rev = (.ok true, s')) : anyChg U rev (k :: l) s = (.ok true, s') := by
  unfold anyChg; rw [h]
theorem anyChg_no {rev : Int} {k : QK} {l : List QK} {s s' : PS} (h : chgSince U s k rev = (.ok false, s')) : anyChg U rev (k :: l) s = anyChg U rev l s' := by
  conv => lhs; unfold anyChg
  rw [h]
theorem anyChg_err {rev : Int} {k : QK} {l : List QK} {s s' : PS} {x : Int} (h : chgSince U s k rev = (.error x, s')) : anyChg U rev (k :: l) s = (.error x, s') := by
  unfold anyChg; rw [h]
/-- IndexFunc's answer -/
def IPost (R : PS → Except Int Bool × PS) (ch : Int → List PanicEntry) (b : Nat) (w : World) (d : Dm) (e : Ending) (w' : World) : Prop :=
  ∃ d', Next b w w' d d' ∧ d'.pl = (R d.pl).2 ∧ match (R d.pl).1 with
    | .ok t => ∃ z : Int, e = .returned (.int .i64 z) ∧ decide (0 ≤ z) = t
    | .error x => e = .panicked (ch x)
/-- the loop over the dependencies, before the k-th -/
structure ChgLoop (K : PS → QK → Prop) (U : PS → QK → Except Int Unit × PS) (b : Nat) (r : Rs) (w : World) (d : Dm) (k : Nat) (wr : World) (d' : Dm) : Prop where
  next : Next b w wr d d'
  eq : anyChg U r.ver r.deps d.pl = anyChg U r.ver (r.deps.drop k) d'.pl
  ok : ∀ k ∈ r.deps, Inp.QKok k ∧ (k.1 ≠ 0 → K d'.pl k)
set_option maxRecDepth 100000 in
set_option maxHeartbeats 1000000 in
theorem idxChg_any (fam : UFam w0 RO b comp stop K U ch) (w : World) (d : Dm) (key : QK) (v : Int) (bd br : Nat) (r : Rs) (h : Env w0 RO b w d) (hc : d.comp = comp) (hs : d.stop = stop) (hr : aget d.es key = some r) (ha : aget d.act key = some v)
    (hK : ∀ k ∈ r.deps, Inp.QKok k ∧ (k.1 ≠ 0 → K d.pl k)) (hd : w.cell? ⟨bd, 0, none⟩ = some (.pointer (some ⟨b, 0, none⟩))) (hb : w.cell? ⟨br, 0, none⟩ = some r.val) (hbd : bd ∉ d.muts b) (hbr : br ∉ d.muts b) :
    Calls Try.prog 108 #[.slice r.da r.deps.length r.dcap, .func (.func 105) #[] #[.pointer (some ⟨bd, 0, none⟩), .pointer (some ⟨br, 0, none⟩)]] w (IPost (anyChg U r.ver r.deps) ch b w d) := by
  obtain ⟨_, _, _, hl1, hl2, _⟩ := (h.mem.rs hr).deps
  unfold maxLen at hl2
  have hlm : r.deps.length ≤ 9223372036854775807 := by omega
  have H := Lib.hid h
  have Hr := Lib.hid hr
  have Ha := Lib.hid ha
  have Hd := Lib.hid hd
  have Hb := Lib.hid hb
  have Hstart := Lib.hid (show ChgLoop K U b r w d 0 w d from ⟨Next.refl h.mem, rfl, hK⟩)
  clear h hr ha hd hb hK hl1 hl2
  go_enter Try.func108, Try.ntmps108
  go_wp2
  go_loopw [8] (fun i wr => ∃ (k : Nat) (d' : Dm), k ≤ r.deps.length ∧ i = .int .i64 (k : Nat) ∧ ChgLoop K U b r w d k wr d') (fun i _ => r.deps.length - (intOf i).toNat)
  case atStart => exact ⟨0, d, by omega, rfl, Hstart.out⟩
  case round =>
    obtain ⟨k, d', hk, rfl, hrel⟩ := hrel
    by_cases hlt : k < r.deps.length
    · have hr' : aget d'.es key = some r := (hrel.next.busy key v Ha.out).2.trans Hr.out
      have hrs := hrel.next.mem.rs hr'
      obtain ⟨g, off, hda, _, q0, q1, q2⟩ := SlR.at hrs.deps k hlt (0, 0, 0)
      obtain ⟨x, hx⟩ : ∃ x, r.deps.getD k (0, 0, 0) = x := ⟨_, rfl⟩
      rw [hx] at q0 q1 q2
      have hxm : x ∈ r.deps := by rw [← hx]; exact getD_memb hlt (0, 0, 0)
      have hdr : r.deps.drop k = x :: r.deps.drop (k + 1) := by rw [← hx]; exact drop_getD _ _ hlt _
      have od := hrel.next.other (lt_of_cell Hd.out) hbd
      have ob := hrel.next.other (lt_of_cell Hb.out) hbr
      have hcall := valid1_any fam wr d' x bd br r (H.out.next hrel.next) (hrel.next.comp.trans hc) (hrel.next.stop.trans hs) (hrel.ok x hxm).1 (hrel.ok x hxm).2 ((World.cell?_of_block od.1).trans Hd.out) ((World.cell?_of_block ob.1).trans Hb.out) (cell_of_heap hrs.blk rfl)
      have Hcall := Lib.hid hcall
      have Heq := Lib.hid (by have := hrel.eq; rw [hdr] at this; exact this)
      have Hrel := Lib.hid hrel
      have Hxm := Lib.hid hxm
      have hk1 : (k : Int) < r.deps.length := by omega
      rw [hda]
      clear hcall hrel hr' hrs hx hdr od ob hxm hda
      obtain ⟨k1, k2, k3⟩ := x
      simp only at q0 q1 q2
      unfold i3v at Hcall
      go_wp2_with fail
      refine Hcall.out.mono ?_
      rintro e w1 hp
      rcases hu : chgSince U d'.pl (k1, k2, k3) r.ver with ⟨_ | t, s'⟩
      · obtain ⟨d2, rfl, hn, rfl⟩ := hp.err hu
        have Hf := Lib.hid (Heq.out.trans (anyChg_err hu))
        have Hn := Lib.hid (Hrel.out.next.trans hn)
        clear hu hp hn
        go_wp2
        refine ⟨rfl, d2, Hn.out, by rw [Hf.out], ?_⟩
        rw [Hf.out]
      · obtain ⟨d2, rfl, hn, rfl⟩ := hp.ok hu
        cases t
        · have Hnext := Lib.hid (show ChgLoop K U b r w d (k + 1) w1 d2 from ⟨Hrel.out.next.trans hn, Heq.out.trans (anyChg_no hu), by have := chg_keep fam (rev := r.ver) Hrel.out.ok Hxm.out; rw [hu] at this; exact this⟩)
          clear hu hp hn
          go_wp2
          exact ⟨⟨k + 1, d2, by omega, by go_num, Hnext.out⟩, by simp [intOf]; omega⟩
        · have Hf := Lib.hid (Heq.out.trans (anyChg_yes hu))
          have Hn := Lib.hid (Hrel.out.next.trans hn)
          clear hu hp hn
          go_wp2
          go_ret
          refine ⟨d2, Hn.out, by rw [Hf.out], ?_⟩
          rw [Hf.out]
          exact ⟨_, rfl, by simp⟩
    · obtain rfl : k = r.deps.length := by omega
      have Hrel := Lib.hid hrel
      clear hrel
      go_wp2
      go_ret
      have hf := Hrel.out.eq
      rw [List.drop_length] at hf
      refine ⟨d', Hrel.out.next, by rw [hf]; rfl, ?_⟩
      rw [hf]
      exact ⟨-1, rfl, rfl⟩
set_option maxRecDepth 100000 in
set_option maxHeartbeats 1000000 in
theorem cfChg_any (fam : UFam w0 RO b comp stop K U ch) (w : World) (d : Dm) (key : QK) (v : Int) (bd br : Nat) (r : Rs) (h : Env w0 RO b w d) (hc : d.comp = comp) (hs : d.stop = stop) (hr : aget d.es key = some r) (ha : aget d.act key = some v)
    (hK : ∀ k ∈ r.deps, Inp.QKok k ∧ (k.1 ≠ 0 → K d.pl k)) (hd : w.cell? ⟨bd, 0, none⟩ = some (.pointer (some ⟨b, 0, none⟩))) (hb : w.cell? ⟨br, 0, none⟩ = some r.val) (hbd : bd ∉ d.muts b) (hbr : br ∉ d.muts b) :
    Calls Try.prog 104 #[.slice r.da r.deps.length r.dcap, .func (.func 105) #[] #[.pointer (some ⟨bd, 0, none⟩), .pointer (some ⟨br, 0, none⟩)]] w (BPost (anyChg U r.ver r.deps) ch b w d) := by
  have Hcall := Lib.hid (idxChg_any fam w d key v bd br r h hc hs hr ha hK hd hb hbd hbr)
  clear h hr ha hd hb hK
  go_enter Try.func104, Try.ntmps104
  go_wp2_with fail
  refine Hcall.out.mono ?_
  rintro e w1 ⟨d2, hn, hpl, hp⟩
  rcases hu : anyChg U r.ver r.deps d.pl with ⟨x | t, s'⟩
  · rw [hu] at hpl hp
    obtain rfl := hp
    have Hf := Lib.hid hu
    have Hpl := Lib.hid hpl
    clear hu hpl
    go_wp2
    exact ⟨rfl, d2, hn, by rw [Hf.out, Hpl.out], by rw [Hf.out]⟩
  · rw [hu] at hpl hp
    obtain ⟨z, rfl, hz⟩ := hp
    have Hf := Lib.hid hu
    have Hn := Lib.hid hn
    have Hpl := Lib.hid hpl
    clear hu hn hpl
    go_wp2
    go_ret
    exact ⟨d2, Hn.out, by rw [Hf.out, Hpl.out], by rw [Hf.out]; rfl⟩
end
end Go.Proofs.Ytggiddhhbilcjaa
/- valid. -/
namespace Go.Proofs.Ytggiddhhbilcjaa
open Go.RowKit
set_option linter.unusedVariables false
theorem revision_q (b bm : Nat) (S : Inp.St) (w : World) (h : Inp.StoreIs w b bm S) :
    Calls Try.prog 94 #[.pointer (some ⟨b, 0, none⟩)] w fun e w' => e = .returned (.int .i64 S.rev) ∧ w' = w := (Inp.revision_any b bm S w h).mono fun _ _ h => ⟨h.1, h.2.symm⟩
theorem last_q (b bm : Nat) (S : Inp.St) (d : Int) (w : World) (h : Inp.StoreIs w b bm S) (hd0 : 0 ≤ d) (hd : d < 3) :
    Calls Try.prog 103 #[.pointer (some ⟨b, 0, none⟩), .int .i64 d] w fun e w' => e = .returned (.int .i64 (S.last d)) ∧ w' = w := (Inp.last_any b bm S d w h hd0 hd).mono fun _ _ h => ⟨h.1, h.2.symm⟩
section
variable {w0 : World} {RO : Nat → Prop} {b : Nat} {comp stop : Value} {K : PS → QK → Prop} {U : PS → QK → Except Int Unit × PS} {ch : Int → List PanicEntry}
theorem validP_yes {s : PS} {r : RV} (h : r.ver = s.rev ∨ s.last r.dur ≤ r.ver) : validP U s r = (.ok true, s) := by unfold validP; rw [if_pos h]
theorem validP_no {s s' : PS} {r : RV} {t : Bool} (h : ¬ (r.ver = s.rev ∨ s.last r.dur ≤ r.ver)) (e : anyChg U r.ver r.deps s = (.ok t, s')) : validP U s r = (.ok (!t), s') := by unfold validP; rw [if_neg h, e]
theorem validP_err {s s' : PS} {r : RV} {x : Int} (h : ¬ (r.ver = s.rev ∨ s.last r.dur ≤ r.ver)) (e : anyChg U r.ver r.deps s = (.error x, s')) : validP U s r = (.error x, s') := by unfold validP; rw [if_neg h, e]
set_option maxRecDepth 100000 in
set_option maxHeartbeats 1000000 in
theorem valid_any (fam : UFam w0 RO b comp stop K U ch) (w : World) (d : Dm) (key : QK) (v : Int) (r : Rs) (h : Env w0 RO b w d) (hc : d.comp = comp) (hs : d.stop = stop) (hr : aget d.es key = some r) (ha : aget d.act key = some v) (hdur : 0 ≤ r.dur ∧ r.dur < 3)
    (hK : ∀ k ∈ r.deps, Inp.QKok k ∧ (k.1 ≠ 0 → K d.pl k)) :
    Calls Try.prog 92 #[.pointer (some ⟨b, 0, none⟩), r.val] w (BPost (fun s => validP U s r.pl) ch b w d) := by
  obtain ⟨hd0, hd3⟩ := hdur
  have hrs := h.mem.rs hr
  have q1 : w.cell? ⟨b, 1, none⟩ = some (.pointer (some ⟨d.bs, 0, none⟩)) := cell_of_heap h.mem.blk rfl
  have r2 : w.cell? ⟨r.blk, 2, none⟩ = some (.int .i64 r.ver) := cell_of_heap hrs.blk rfl
  have r4 : w.cell? ⟨r.blk, 4, none⟩ = some (.int .i64 r.dur) := cell_of_heap hrs.blk rfl
  have r5 : w.cell? ⟨r.blk, 5, none⟩ = some (.slice r.da r.deps.length r.dcap) := cell_of_heap hrs.blk rfl
  have lb : b < w.heap.size := lt_of_cell q1
  have lr : r.blk < w.heap.size := lt_of_cell r2
  have n1 := World.new_ne w _ q1
  have n2 := World.new_ne w _ r2
  have hcd : Chg [] w ((w.alloc (.cells #[.pointer (some ⟨b, 0, none⟩)] 60)).alloc (.cells #[r.val] 154)) := ((Chg.refl [] w).alloc _).alloc _
  have Hst := fun n => h.mem.store.same (hcd.drewN n)
  have hlt1 : b < w.heap.size + 1 := by omega
  have hlt2 : r.blk < w.heap.size + 1 := by omega
  have Hm := Lib.hid h.mem
  by_cases hv : r.ver = d.S.rev
  · have bv : (r.ver == d.S.rev) = true := by simpa using hv
    have Hf := Lib.hid (show validP U d.pl r.pl = (.ok true, d.pl) from validP_yes (Or.inl hv))
    clear hv h hrs hr ha hK
    unfold Rs.val at hcd ⊢
    go_enter Try.func92, Try.ntmps92
    go_wp2_with fail
    go_quiet ((go_at_call 94; exact Calls.quiet_of_same (revision_q _ _ _ _ (by first | exact Hst _ | exact Hst 0))))
    go_wp2
    go_ret
    exact BPost.mkOk (R := fun s => validP U s r.pl) (t := true) Hf.out (Next.new Hm.out (hcd.drewN _)) rfl
  · have bv : (r.ver == d.S.rev) = false := by simpa using hv
    by_cases hl : d.S.last r.dur ≤ r.ver
    · have Hf := Lib.hid (show validP U d.pl r.pl = (.ok true, d.pl) from validP_yes (Or.inr hl))
      clear hv h hrs hr ha hK
      unfold Rs.val at hcd Hst ⊢
      go_enter Try.func92, Try.ntmps92
      go_wp2_with fail
      go_quiet (first | (go_at_call 94; exact Calls.quiet_of_same (revision_q _ _ _ _ (by first | exact Hst _ | exact Hst 0))) | (go_at_call 103; exact Calls.quiet_of_same (last_q _ _ _ _ _ (by first | exact Hst _ | exact Hst 0) hd0 hd3)))
      go_wp2
      go_ret
      exact BPost.mkOk (R := fun s => validP U s r.pl) (t := true) Hf.out (Next.new Hm.out (hcd.drewN _)) rfl
    · have hl' : ¬ (r.pl.ver = d.pl.rev ∨ d.pl.last r.pl.dur ≤ r.pl.ver) := fun e => e.elim hv hl
      have Hl := Lib.hid hl'
      have bl : decide (d.S.last r.dur ≤ r.ver) = false := by simpa using hl
      have hcall : ∀ w', Chg [] ((w.alloc (.cells #[.pointer (some ⟨b, 0, none⟩)] 60)).alloc (.cells #[r.val] 154)) w' → Calls Try.prog 104 #[.slice r.da r.deps.length r.dcap, .func (.func 105) #[] #[.pointer (some ⟨w.heap.size, 0, none⟩), .pointer (some ⟨w.heap.size + 1, 0, none⟩)]] w' (BPost (anyChg U r.ver r.deps) ch b w' d) := fun w' hw => by
        have hm := h.mem.lt
        refine cfChg_any fam w' d key v w.heap.size (w.heap.size + 1) r (h.new (hcd.trans hw)) hc hs hr ha hK ?_ ?_ ?_ ?_
        · rw [hw.cell (by simp; try omega) (by simp)]
          exact cell_of_heap ((heap_past _ _ _ (by simp)).trans (heap_at _ _ _ rfl)) rfl
        · rw [hw.cell (by simp; try omega) (by simp)]
          exact cell_of_heap (heap_at _ _ _ (by simp)) rfl
        · intro hg; have := hm _ hg; omega
        · intro hg; have := hm _ hg; omega
      have Hcall := Lib.hid hcall
      clear hv h hrs hr ha hK hcall hl
      unfold Rs.val at hcd Hst Hcall ⊢
      have hmf : ∀ (fn : Fn) (first cap : Array Value) (w : World), (Instr.makeFunc fn first cap).run Try.prog w = .ok (.func fn first cap) w := fun _ _ _ _ => rfl
      go_enter Try.func92, Try.ntmps92
      go_wp2_with fail
      go_quiet (first | (go_at_call 94; exact Calls.quiet_of_same (revision_q _ _ _ _ (by first | exact Hst _ | exact Hst 0))) | (go_at_call 103; exact Calls.quiet_of_same (last_q _ _ _ _ _ (by first | exact Hst _ | exact Hst 0) hd0 hd3)))
      go_wp2_with fail
      refine (Hcall.out _ ((Chg.refl _ _).drewN _)).mono ?_
      rintro e w1 hp
      rcases hu : anyChg U r.ver r.deps d.pl with ⟨_ | t, s'⟩
      · obtain ⟨d2, rfl, hn, rfl⟩ := hp.err hu
        have Hf := Lib.hid (show validP U d.pl r.pl = (.error _, d2.pl) from validP_err Hl.out hu)
        have Hn := Lib.hid (Next.afterNew Hm.out (hcd.drewN _) hn)
        clear hu hp hn
        go_wp2
        exact ⟨rfl, BPost.mkErr (R := fun s => validP U s r.pl) Hf.out Hn.out rfl⟩
      · obtain ⟨d2, rfl, hn, rfl⟩ := hp.ok hu
        have Hf := Lib.hid (show validP U d.pl r.pl = (.ok (!t), d2.pl) from validP_no Hl.out hu)
        have Hn := Lib.hid (Next.afterNew Hm.out (hcd.drewN _) hn)
        clear hu hp hn
        go_wp2
        go_ret
        exact BPost.mkOk (R := fun s => validP U s r.pl) (t := !t) Hf.out Hn.out rfl
end
end Go.Proofs.Ytggiddhhbilcjaa
/- A get under way: the state of recompute's closure. -/
namespace Go.Proofs.Ytggiddhhbilcjaa
open Go.RowKit
set_option linter.unusedVariables false
/-- what a get of values brings -/
def VPost {ε σ : Type} (I : (Nat → Prop) → σ → World → Prop) (RO : Nat → Prop) (G : σ → QK → Except ε (List Int) × σ) (ch : ε → List PanicEntry) (F : Nat → Prop) (s : σ) (k : QK) (w : World) (e : Ending) (w' : World) : Prop :=
  (match (G s k).1 with
    | .ok xs => ∃ a c, e = .returned (.agg #[.slice a xs.length c, .string ⟨#[]⟩]) ∧ Inp.Ints w' (.slice a xs.length c) xs ∧ xs.length * 8 ≤ 140737488355328
    | .error x => e = .panicked (ch x)) ∧ I F (G s k).2 w' ∧ ChgP (fun b => ¬ F b ∧ ¬ RO b) w w'
/-- a get of values: how it is called, what its state is, what it answers -/
structure VFam {ε σ : Type} (fn : Nat) (caps : Array Value) (I : (Nat → Prop) → σ → World → Prop) (RO : Nat → Prop) (G : σ → QK → Except ε (List Int) × σ) (ch : ε → List PanicEntry) (Kk : QK → Prop) : Prop where
  enter : ∀ args w, (callFunc fn args).run Try.prog w = .ok (.enter fn args) w
  keep : ∀ {F s w w'}, I F s w → ChgP (fun k => F k ∧ ¬ RO k) w w' → I (fun k => F k ∨ (w.heap.size ≤ k ∧ k < w'.heap.size)) s w'
  anti : ∀ {F F' s w}, I F s w → (∀ k, F' k → F k) → I F' s w
  ro : ∀ {F s w}, I F s w → ∀ k, RO k → k < w.heap.size
  call : ∀ F s w k, Kk k → I F s w → Calls Try.prog fn (#[i3v k] ++ caps) w (VPost I RO G ch F s k w)
theorem VPost.ok {ε σ : Type} {I : (Nat → Prop) → σ → World → Prop} {RO : Nat → Prop} {G : σ → QK → Except ε (List Int) × σ} {ch : ε → List PanicEntry} {F : Nat → Prop} {s s' : σ} {k : QK} {w w' : World} {e : Ending} {xs : List Int} (h : VPost I RO G ch F s k w e w') (hg : G s k = (.ok xs, s')) :
    ∃ a c, e = .returned (.agg #[.slice a xs.length c, .string ⟨#[]⟩]) ∧ Inp.Ints w' (.slice a xs.length c) xs ∧ xs.length * 8 ≤ 140737488355328 ∧ I F s' w' ∧ ChgP (fun b => ¬ F b ∧ ¬ RO b) w w' := by
  obtain ⟨h1, h2, h3⟩ := h
  rw [hg] at h1 h2
  obtain ⟨a, c, h4, h5, h6⟩ := h1
  exact ⟨a, c, h4, h5, h6, h2, h3⟩
theorem VPost.err {ε σ : Type} {I : (Nat → Prop) → σ → World → Prop} {RO : Nat → Prop} {G : σ → QK → Except ε (List Int) × σ} {ch : ε → List PanicEntry} {F : Nat → Prop} {s s' : σ} {k : QK} {w w' : World} {e : Ending} {x : ε} (h : VPost I RO G ch F s k w e w') (hg : G s k = (.error x, s')) :
    e = .panicked (ch x) ∧ I F s' w' ∧ ChgP (fun b => ¬ F b ∧ ¬ RO b) w w' := by
  obtain ⟨h1, h2, h3⟩ := h
  rw [hg] at h1 h2
  exact ⟨h1, h2, h3⟩
/-- a result under way -/
structure GAt (w0 : World) (RO : Nat → Prop) (b : Nat) (K : PS → QK → Prop) (Kk : QK → Prop) (ws : World) (ds : Dm) (cdb cr rb : Nat) (ver : Int) (σ : GS) (w : World) (d : Dm) (da : Option Addr) (dcap : Nat) : Prop where
  env : Env w0 RO b w d
  next : Next b ws w ds d
  pl : d.pl = σ.1
  bdb : w.heap[cdb]? = some (.cells #[.pointer (some ⟨b, 0, none⟩)] 60 (0, 0))
  bre : w.heap[cr]? = some (.cells #[.pointer (some ⟨rb, 0, none⟩)] 154 (0, 0))
  res : w.heap[rb]? = some (.cells #[.slice none 0 0, .string ⟨#[]⟩, .int .i64 ver, .int .i64 ver, .int .i64 σ.2.2, .slice da σ.2.1.length dcap, .int .i64 0] 153 (0, 0))
  row : w.ownsRow 0 43 3 (.slice da σ.2.1.length dcap) σ.2.1.length (flat3 σ.2.1)
  nd : σ.2.1.Nodup
  kin : ∀ k ∈ σ.2.1, Kk k
  ks : ∀ k, Kk k → Inp.QKok k ∧ (k.1 ≠ 0 → K d.pl k)
  abox : cdb ∉ d.muts b ∧ cr ∉ d.muts b
  ares : rb ∉ d.muts b ∧ rb ∉ d.imms ∧ ¬ RO rb ∧ rb ≠ cdb ∧ rb ≠ cr ∧ ws.heap.size ≤ rb
  arow : ∀ g ∈ oblk da, g ∉ d.muts b ∧ g ∉ d.imms ∧ ¬ RO g ∧ g ≠ cdb ∧ g ≠ cr ∧ g ≠ rb ∧ ws.heap.size ≤ g
def GRO (RO : Nat → Prop) (cdb cr : Nat) : Nat → Prop := fun g => RO g ∨ g = cdb ∨ g = cr
/-- the blocks F are nobody's of the database's -/
def GFree (b : Nat) (ws : World) (rb : Nat) (d : Dm) (da : Option Addr) (F : Nat → Prop) : Prop := ∀ g, F g → ws.heap.size ≤ g ∧ g ∉ d.muts b ∧ g ∉ d.imms ∧ g ≠ rb ∧ g ∉ oblk da
def GI (w0 : World) (RO : Nat → Prop) (b : Nat) (K : PS → QK → Prop) (Kk : QK → Prop) (ws : World) (ds : Dm) (cdb cr rb : Nat) (ver : Int) (F : Nat → Prop) (σ : GS) (w : World) : Prop :=
  ∃ d da dcap, GAt w0 RO b K Kk ws ds cdb cr rb ver σ w d da dcap ∧ GFree b ws rb d da F ∧ ∀ g, F g → g < w.heap.size
section
variable {w0 : World} {RO : Nat → Prop} {b : Nat} {K : PS → QK → Prop} {Kk : QK → Prop} {ws : World} {ds : Dm} {cdb cr rb : Nat} {ver : Int} {σ : GS} {w w' : World} {d d' : Dm} {da : Option Addr} {dcap : Nat} {F F' : Nat → Prop}
theorem GAt.dalt (h : GAt w0 RO b K Kk ws ds cdb cr rb ver σ w d da dcap) : ∀ g ∈ oblk da, g < w.heap.size := by
  intro g hg
  rcases h.row.2 with ⟨e, _⟩ | ⟨g', cap, cur, e, _, hh, _⟩
  · simp only [Value.slice.injEq] at e; rw [e.1] at hg; simp [oblk] at hg
  · simp only [Value.slice.injEq] at e; rw [e.1] at hg; simp [oblk] at hg; subst hg; exact lt_of_obj hh
/-- changes elsewhere -/
theorem GAt.kept (h : GAt w0 RO b K Kk ws ds cdb cr rb ver σ w d da dcap) (hc : ChgP F w w') (hF : GFree b ws rb d da F) (hR : ∀ g, F g → ¬ GRO RO cdb cr g) : GAt w0 RO b K Kk ws ds cdb cr rb ver σ w' d da dcap := by
  have hm : DmAt w' b d := h.env.mem.kept hc (fun g hg hf => (hF g hf).2.1 hg) (fun g hg hf => (hF g hf).2.2.1 hg)
  refine ⟨⟨hm, fun g hg => ?_⟩, ?_, h.pl, ?_, ?_, ?_, ?_, h.nd, h.kin, h.ks, h.abox, h.ares, h.arow⟩
  · obtain ⟨h1, h2, h3⟩ := h.env.ro g hg
    exact ⟨Nat.lt_of_lt_of_le h1 hc.size, (hc.block g h1 (fun hf => hR g hf (Or.inl hg))).trans h2, h3⟩
  · exact ⟨hm, h.next.chg.comp hc fun g hg => Or.inr (hF g hg).1, h.next.muts, h.next.imms, h.next.comp, h.next.stop, h.next.store, h.next.bs, h.next.bsm, h.next.br, h.next.ba, h.next.busy⟩
  · exact (hc.block _ (lt_of_obj h.bdb) (fun hf => hR _ hf (Or.inr (Or.inl rfl)))).trans h.bdb
  · exact (hc.block _ (lt_of_obj h.bre) (fun hf => hR _ hf (Or.inr (Or.inr rfl)))).trans h.bre
  · exact (hc.block _ (lt_of_obj h.res) (fun hf => (hF _ hf).2.2.2.1 rfl)).trans h.res
  · refine ownsRow_kept h.row fun g hg hl => hc.block g hl fun hf => (hF _ hf).2.2.2.2 ?_
    cases da <;> simp [Value.ownBlock, oblk] at hg ⊢
    exact hg.symm
theorem GAt.new (h : GAt w0 RO b K Kk ws ds cdb cr rb ver σ w d da dcap) (hc : Chg [] w w') : GAt w0 RO b K Kk ws ds cdb cr rb ver σ w' d da dcap :=
  h.kept (F := fun _ => False) hc.p (fun _ h => h.elim) (fun _ h => h.elim)
theorem GI.keep (h : GI w0 RO b K Kk ws ds cdb cr rb ver F σ w) (hc : ChgP (fun k => F k ∧ ¬ GRO RO cdb cr k) w w') : GI w0 RO b K Kk ws ds cdb cr rb ver (fun k => F k ∨ (w.heap.size ≤ k ∧ k < w'.heap.size)) σ w' := by
  obtain ⟨d, da, dcap, h, hF, hl⟩ := h
  refine ⟨d, da, dcap, h.kept hc (fun g hg => hF g hg.1) (fun g hg => hg.2), fun g hg => ?_, fun g hg => hg.elim (fun h => Nat.lt_of_lt_of_le (hl g h) hc.size) fun h => h.2⟩
  rcases hg with hg | ⟨hg, _⟩
  · exact hF g hg
  · have h1 := h.next.chg.size
    exact ⟨by omega, fun hm => by have := h.env.mem.lt g hm; omega, fun hm => by have := h.env.mem.bound g hm; omega, fun e => by have := lt_of_obj h.res; omega, fun hm => by have := h.dalt g hm; omega⟩
theorem GI.anti (h : GI w0 RO b K Kk ws ds cdb cr rb ver F σ w) (hF : ∀ k, F' k → F k) : GI w0 RO b K Kk ws ds cdb cr rb ver F' σ w := by
  obtain ⟨d, da, dcap, h, h2, h3⟩ := h
  exact ⟨d, da, dcap, h, fun g hg => h2 g (hF g hg), fun g hg => h3 g (hF g hg)⟩
theorem GI.ro (h : GI w0 RO b K Kk ws ds cdb cr rb ver F σ w) : ∀ k, GRO RO cdb cr k → k < w.heap.size := by
  obtain ⟨d, da, dcap, h, h2⟩ := h
  intro k hk
  rcases hk with hk | rfl | rfl
  · exact (h.env.ro k hk).1
  · exact lt_of_obj h.bdb
  · exact lt_of_obj h.bre
/-- the database went on -/
theorem GAt.go (h : GAt w0 RO b K Kk ws ds cdb cr rb ver σ w d da dcap) (hn : Next b w w' d d') (hks : ∀ k, Kk k → Inp.QKok k ∧ (k.1 ≠ 0 → K d'.pl k)) : GAt w0 RO b K Kk ws ds cdb cr rb ver (d'.pl, σ.2) w' d' da dcap := by
  have o1 := hn.other (lt_of_obj h.bdb) h.abox.1
  have o2 := hn.other (lt_of_obj h.bre) h.abox.2
  have o3 := hn.other (lt_of_obj h.res) h.ares.1
  have hni : ∀ g, g < w.heap.size → g ∉ d.imms → g ∉ d'.imms := fun g h1 h2 hm => (hn.imms g hm).elim h2 fun hs => by omega
  refine ⟨h.env.next hn, h.next.trans hn, rfl, o1.1.trans h.bdb, o2.1.trans h.bre, o3.1.trans h.res, ?_, h.nd, h.kin, hks, ⟨o1.2.1, o2.2.1⟩, ⟨o3.2.1, hni _ (lt_of_obj h.res) h.ares.2.1, h.ares.2.2⟩, fun g hg => ?_⟩
  · refine ownsRow_kept h.row fun g hg hl => (hn.other hl (h.arow g ?_).1).1
    cases da <;> simp [Value.ownBlock, oblk] at hg ⊢
    exact hg.symm
  · have hl := h.dalt g hg
    obtain ⟨a1, a2, a3⟩ := h.arow g hg
    exact ⟨(hn.other hl a1).2.1, hni g hl a2, a3⟩
theorem GFree.go (h : GAt w0 RO b K Kk ws ds cdb cr rb ver σ w d da dcap) (hF : GFree b ws rb d da F) (hl : ∀ g, F g → g < w.heap.size) (hn : Next b w w' d d') : GFree b ws rb d' da F := fun g hg => by
  obtain ⟨h1, h2, h3, h4⟩ := hF g hg
  exact ⟨h1, (hn.other (hl g hg) h2).2.1, fun hm => (hn.imms g hm).elim h3 fun hs => by have := hl g hg; omega, h4⟩
/-- the changes of a get -/
theorem GAt.chg (h : GAt w0 RO b K Kk ws ds cdb cr rb ver σ w d da dcap) (hF : GFree b ws rb d da F) : ∀ g, (g ∈ d.muts b ∨ g = rb ∨ g ∈ oblk da) → ¬ F g ∧ ¬ GRO RO cdb cr g := by
  rintro g (hg | rfl | hg)
  · exact ⟨fun hf => (hF g hf).2.1 hg, fun hr => by
      rcases hr with hr | rfl | rfl
      · exact (h.env.ro g hr).2.2 hg
      · exact h.abox.1 hg
      · exact h.abox.2 hg⟩
  · exact ⟨fun hf => (hF _ hf).2.2.2.1 rfl, fun hr => by
      rcases hr with hr | e | e
      · exact h.ares.2.2.1 hr
      · exact h.ares.2.2.2.1 e
      · exact h.ares.2.2.2.2.1 e⟩
  · obtain ⟨a1, a2, a3, a4, a5, a6⟩ := h.arow g hg
    exact ⟨fun hf => (hF _ hf).2.2.2.2 hg, fun hr => by
      rcases hr with hr | e | e
      · exact a3 hr
      · exact a4 e
      · exact a5 e⟩
/-- the durability noted -/
theorem GAt.dur {s : PS} {l : List QK} {u u' : Int} (h : GAt w0 RO b K Kk ws ds cdb cr rb ver (s, l, u) w d da dcap) : GAt w0 RO b K Kk ws ds cdb cr rb ver (s, l, u') (w.setCell ⟨rb, 4, none⟩ (.int .i64 u')) d da dcap := by
  have hc : ChgP (fun g => g = rb) w (w.setCell ⟨rb, 4, none⟩ (.int .i64 u')) := (ChgP.refl (fun g => g = rb) w).setCell (p := ⟨rb, 4, none⟩) (Or.inl rfl) _
  have hm : DmAt (w.setCell ⟨rb, 4, none⟩ (.int .i64 u')) b d := h.env.mem.kept hc (fun g hg e => h.ares.1 (e ▸ hg)) (fun g hg e => h.ares.2.1 (e ▸ hg))
  refine ⟨⟨hm, fun g hg => ?_⟩, ?_, h.pl, ?_, ?_, ?_, ?_, h.nd, h.kin, h.ks, h.abox, h.ares, h.arow⟩
  · obtain ⟨h1, h2, h3⟩ := h.env.ro g hg
    exact ⟨Nat.lt_of_lt_of_le h1 hc.size, (hc.block g h1 (fun hf => h.ares.2.2.1 (hf ▸ hg))).trans h2, h3⟩
  · exact ⟨hm, h.next.chg.comp hc fun g hg => Or.inr (hg ▸ h.ares.2.2.2.2.2), h.next.muts, h.next.imms, h.next.comp, h.next.stop, h.next.store, h.next.bs, h.next.bsm, h.next.br, h.next.ba, h.next.busy⟩
  · exact (hc.block _ (lt_of_obj h.bdb) (fun hf => h.ares.2.2.2.1 hf.symm)).trans h.bdb
  · exact (hc.block _ (lt_of_obj h.bre) (fun hf => h.ares.2.2.2.2.1 hf.symm)).trans h.bre
  · exact (heap_setCell_same h.res _).trans rfl
  · refine ownsRow_kept h.row fun g hg hl => hc.block g hl fun hf => (h.arow g ?_).2.2.2.2.2.1 hf
    cases da <;> simp [Value.ownBlock, oblk] at hg ⊢
    exact hg.symm
/-- a dependency noted -/
theorem GAt.push {s : PS} {l : List QK} {u : Int} {k : QK} {w8 : World} {a8 : Option Addr} {cap8 : Nat} (h : GAt w0 RO b K Kk ws ds cdb cr rb ver (s, l, u) w d da dcap) (hk : Kk k) (hn : k ∉ l)
    (hown : w8.ownsRow 0 43 3 (.slice a8 (l.length + 1) cap8) (l.length + 1) (flat3 l ++ [.int .i64 k.1, .int .i64 k.2.1, .int .i64 k.2.2])) (hc : ChgP (fun g => g ∈ oblk da) w w8) (hat : ∀ g ∈ oblk a8, g ∈ oblk da ∨ w.heap.size ≤ g) :
    GAt w0 RO b K Kk ws ds cdb cr rb ver (s, addK l k, u) (w8.setCell ⟨rb, 5, none⟩ (.slice a8 (l.length + 1) cap8)) d a8 cap8 := by
  have hadd : addK l k = l ++ [k] := by unfold addK; rw [if_neg hn]
  have hadl : (addK l k).length = l.length + 1 := by rw [hadd]; simp
  have hcr : ChgP (fun g => g ∈ oblk da ∨ g = rb) w (w8.setCell ⟨rb, 5, none⟩ (.slice a8 (l.length + 1) cap8)) := (hc.mono (T := fun g => g ∈ oblk da ∨ g = rb) fun _ h => Or.inl h).setCell (p := ⟨rb, 5, none⟩) (Or.inl (Or.inr rfl)) _
  have hdm : ∀ g, (g ∈ oblk da ∨ g = rb) → g ∉ d.muts b ∧ g ∉ d.imms ∧ ¬ RO g ∧ g ≠ cdb ∧ g ≠ cr ∧ ws.heap.size ≤ g := by
    rintro g (hg | rfl)
    · obtain ⟨a1, a2, a3, a4, a5, a6, a7⟩ := h.arow g hg; exact ⟨a1, a2, a3, a4, a5, a7⟩
    · exact ⟨h.ares.1, h.ares.2.1, h.ares.2.2.1, h.ares.2.2.2.1, h.ares.2.2.2.2.1, h.ares.2.2.2.2.2⟩
  have hm := h.env.mem.kept hcr (fun g hg e => (hdm g e).1 hg) (fun g hg e => (hdm g e).2.1 hg)
  have hr8 : w8.heap[rb]? = w.heap[rb]? := hc.block _ (lt_of_obj h.res) fun hg => (h.arow _ hg).2.2.2.2.2.1 rfl
  have hws := h.next.chg.size
  refine ⟨⟨hm, fun g hg => ?_⟩, ?_, h.pl, ?_, ?_, ?_, ?_, addK_nodup h.nd k, fun x hx => ?_, h.ks, h.abox, h.ares, fun g hg => ?_⟩
  · obtain ⟨h1, h2, h3⟩ := h.env.ro g hg
    exact ⟨Nat.lt_of_lt_of_le h1 hcr.size, (hcr.block g h1 (fun hf => (hdm g hf).2.2.1 hg)).trans h2, h3⟩
  · exact ⟨hm, h.next.chg.comp hcr fun g hg => Or.inr (hdm g hg).2.2.2.2.2, h.next.muts, h.next.imms, h.next.comp, h.next.stop, h.next.store, h.next.bs, h.next.bsm, h.next.br, h.next.ba, h.next.busy⟩
  · exact (hcr.block _ (lt_of_obj h.bdb) (fun hf => (hdm _ hf).2.2.2.1 rfl)).trans h.bdb
  · exact (hcr.block _ (lt_of_obj h.bre) (fun hf => (hdm _ hf).2.2.2.2.1 rfl)).trans h.bre
  · rw [hadl]
    exact (heap_setCell_same (hr8.trans h.res) _).trans rfl
  · rw [hadl]
    have e : flat3 (addK l k) = flat3 l ++ [.int .i64 k.1, .int .i64 k.2.1, .int .i64 k.2.2] := by rw [hadd, flat3_append]
    rw [e]
    refine ownsRow_kept hown fun g hg _ => heap_setCell_ne _ _ _ _ ?_
    have hg8 : g ∈ oblk a8 := by
      cases a8 <;> simp [Value.ownBlock, oblk] at hg ⊢
      exact hg.symm
    rcases hat g hg8 with h1 | h1
    · exact (h.arow g h1).2.2.2.2.2.1
    · have := lt_of_obj h.res
      show g ≠ rb
      omega
  · rcases mem_addK_iff hx with hx | rfl
    · exact h.kin x hx
    · exact hk
  · rcases hat g hg with h1 | h1
    · exact h.arow g h1
    · have b1 := lt_of_obj h.bdb
      have b2 := lt_of_obj h.bre
      have b3 := lt_of_obj h.res
      exact ⟨fun hm => by have := h.env.mem.lt g hm; omega, fun hm => by have := h.env.mem.bound g hm; omega, fun hr => by have := (h.env.ro g hr).1; omega, by omega, by omega, by omega, by omega⟩
theorem GFree.push {a8 : Option Addr} (hF : GFree b ws rb d da F) (hl : ∀ g, F g → g < w.heap.size) (hat : ∀ g ∈ oblk a8, g ∈ oblk da ∨ w.heap.size ≤ g) : GFree b ws rb d a8 F := fun g hg => by
  obtain ⟨h1, h2, h3, h4, h5⟩ := hF g hg
  exact ⟨h1, h2, h3, h4, fun hm => (hat g hm).elim h5 fun hs => by have := hl g hg; omega⟩
end
end Go.Proofs.Ytggiddhhbilcjaa
