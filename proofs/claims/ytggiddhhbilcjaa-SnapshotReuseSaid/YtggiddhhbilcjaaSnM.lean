/- A history in memory: maps whose values are rows of their own; results in boxes. -/
import Derived.Test.YtggiddhhbilcjaaSnP
import Derived.Test.YtggiddhhbilcjaaRange
import Derived.WideKeyEntry
namespace Go.Proofs.Ytggiddhhbilcjaa.Sn
open Go.RowKit Go.ChangeMaps Go.MapKept
open Go.Maps (Keyed)
set_option linter.unusedVariables false
set_option linter.unusedSimpArgs false
/-! ### m[k] = append(m[k], ..) -/
section
variable {P : Program} {K : Type} {kt : TypeId} {ek : K → Value} [DecidableEq K]
theorem entry_update (hk : Keyed P kt) (hinj : ∀ x y, ek x = ek y → x = y) {t et : TypeId} (ht : P.underlying t = some (.map kt et)) {z : Value} (hz : ∀ u : World, (zeroValue et).run P u = .ok z u) {w : World} {b : Nat} {es : List (K × Value)} (h : MapAt P kt ek w b es) {x : K} (hx : KeyOk P kt (ek x)) :
    ∃ (o : Obj) (st : Nat), (Instr.mapEntry t (.map (some b)) (ek x)).run P w = .ok (.tuple #[(aget es x).getD z, goInt st]) (setBlock w b o) ∧ (∃ arr clock, o = .map arr clock) ∧
      ∀ (w2 : World) (v : Value), w2.heap[b]? = some o → ∃ o', (Instr.entryStore t (.map (some b)) (goInt st) v).run P w2 = .ok () (setBlock w2 b o') ∧ MapAt P kt ek (setBlock w2 b o') b (ups es x v) := by
  have hnd := h.nodup
  have hupd := h.update hk hinj ht hx
  obtain ⟨arr, clock, hb, he, hs, hok⟩ := h
  obtain ⟨l, hl⟩ := hx
  have hkeys : ∀ e ∈ arr.toList, ∃ l, keyOf P kt e.key = some l := by
    intro e hm
    have h1 : (e.key, e.val) ∈ es.map (fun p => (ek p.1, p.2)) := he ▸ List.mem_map.2 ⟨e, hm, rfl⟩
    obtain ⟨p, hp, e1⟩ := List.mem_map.1 h1
    obtain ⟨l', hl'⟩ := hok p hp
    simp only [Prod.mk.injEq] at e1
    exact ⟨l', e1.1 ▸ hl'⟩
  have hok' : ∀ v, ∀ p ∈ ups es x v, KeyOk P kt (ek p.1) := by
    intro v p hp
    rcases mem_ups hp with rfl | hp
    · exact ⟨l, hl⟩
    · exact hok p hp
  have hs' := hs
  obtain ⟨s1, s2, _⟩ := hs'
  rcases hk.find w hl arr.toList hkeys with ⟨h1, h2⟩ | ⟨j, e0, h1, h2, h3⟩
  · have hno : ∀ p ∈ es, p.1 ≠ x := by
      intro p hp e1
      have h4 : (ek p.1, p.2) ∈ arr.toList.map (fun e => (e.key, e.val)) := he ▸ List.mem_map.2 ⟨p, hp, rfl⟩
      obtain ⟨e, hm, e2⟩ := List.mem_map.1 h4
      simp only [Prod.mk.injEq] at e2
      exact h2 e hm (by rw [e2.1, e1])
    refine ⟨.map (arr.push ⟨ek x, z, clock⟩) (clock + 1), clock, ?_, ⟨_, _, rfl⟩, fun w2 v hw2 => ⟨.map (arr.push ⟨ek x, v, clock⟩) (clock + 1), ?_, _, _, heap_setBlock_same hw2 _, ?_, stamped_push hs h2, hok' v⟩⟩
    · rw [aget_eq_none hno]
      simp [Instr.mapEntry, run_underlying ht, MapKept.run_getObj_map hb, hk.check w false hl, h1, hz, MapKept.run_setObj_map _ hb, Result.andThen, setBlock]
    · have hidx : (arr.push ⟨ek x, z, clock⟩).findIdx? (fun e => ((e.born : Nat) : Int) == ((clock : Nat) : Int)) = some arr.size := by
        rw [Go.WideElems.findIdx_arr]
        have := Go.WideElems.findIdx_born (l := (arr.push ⟨ek x, z, clock⟩).toList) (j := arr.size) (e0 := ⟨ek x, z, clock⟩) (by
          simp only [Array.toList_push, List.map_append, List.map_cons, List.map_nil]
          refine List.nodup_append.2 ⟨s2, by simp, fun a ha c hc e1 => ?_⟩
          simp only [List.mem_singleton] at hc
          obtain ⟨x, hx, rfl⟩ := List.mem_map.1 ha
          have := s1 x hx
          omega) (by simp)
        exact this
      have hmod : (arr.push ⟨ek x, z, clock⟩).modify arr.size (fun e => { e with val := v }) = arr.push ⟨ek x, v, clock⟩ := by
        apply Array.ext'
        rw [Array.toList_modify, Array.toList_push, Array.toList_push, ← Array.length_toList, Go.WideElems.modify_last]
      simp [Instr.entryStore, MapKept.run_getObj_map hw2, asInt, asIntOf, goInt, hidx, hmod, MapKept.run_setObj_map _ hw2, Result.andThen, setBlock]
    · rw [ups_none hno]
      simp [he]
  · have hj : arr[j]? = some e0 := by simpa using h2
    have hsame : arr.modify j (fun e => { e with key := ek x }) = arr := by
      apply Array.ext'
      rw [Array.toList_modify, modify_eq_set _ _ _ _ h2]
      have : ({ e0 with key := ek x } : MapEntry) = e0 := by rw [← h3]
      rw [this]
      exact Go.WideElems.set_self _ _ _ h2
    have hget : aget es x = some e0.val := by
      have hm : (ek x, e0.val) ∈ es.map (fun p => (ek p.1, p.2)) := by
        rw [← he]
        exact List.mem_map.2 ⟨e0, List.mem_of_getElem? h2, by rw [h3]⟩
      obtain ⟨p, hp, e1⟩ := List.mem_map.1 hm
      simp only [Prod.mk.injEq] at e1
      have hpx := hinj _ _ e1.1
      refine aget_of_mem hnd ?_
      rw [← hpx, ← e1.2]
      exact hp
    refine ⟨.map arr clock, e0.born, ?_, ⟨_, _, rfl⟩, fun w2 v hw2 => ⟨.map (arr.modify j fun e' => { e' with key := ek x, val := v }) clock, ?_, _, _, heap_setBlock_same hw2 _, ?_, ?_, hok' v⟩⟩
    · rw [hget]
      simp [Instr.mapEntry, run_underlying ht, MapKept.run_getObj_map hb, hk.check w false hl, h1, hj, h3, hk.stays w hl, hsame, MapKept.run_setObj_map _ hb, Result.andThen, setBlock]
    · have hidx : arr.findIdx? (fun e => ((e.born : Nat) : Int) == ((e0.born : Nat) : Int)) = some j := by
        rw [Go.WideElems.findIdx_arr]
        exact Go.WideElems.findIdx_born s2 h2
      have hmod : arr.modify j (fun e => { e with val := v }) = arr.modify j (fun e' => { e' with key := ek x, val := v }) := by
        apply Array.ext'
        rw [Array.toList_modify, Array.toList_modify, modify_eq_set _ _ _ _ h2, modify_eq_set _ _ _ _ h2, ← h3]
      simp [Instr.entryStore, MapKept.run_getObj_map hw2, asInt, asIntOf, goInt, hidx, hmod, MapKept.run_setObj_map _ hw2, Result.andThen, setBlock]
    · rw [Array.toList_modify, modify_eq_set _ _ _ _ h2]
      exact modify_entries arr.toList j e0 h2 es hinj he hnd x h3 v
    · exact stamped_modify hs _ _ (fun _ _ => rfl) (fun e' _ he' => by rw [hj] at he'; cases he'; exact h3.symm)
end
/-! ### maps of rows -/
def disj (a b : Value) : Prop := ∀ g, a.ownBlock = some g → b.ownBlock ≠ some g
abbrev GLg (α : Type) := List (QK × Value × List α)
section
variable {α : Type}
def gE (L : GLg α) : List (QK × Value) := L.map fun p => (p.1, p.2.1)
def gV (L : GLg α) (x : QK) : Value := ((aget L x).map (·.1)).getD (.slice none 0 0)
def gL (L : GLg α) (x : QK) : List α := ((aget L x).map (·.2)).getD []
theorem gE_get (L : GLg α) (x : QK) : aget (gE L) x = (aget L x).map (·.1) := by
  unfold gE
  induction L with
  | nil => rfl
  | cons p L ih =>
    simp only [List.map_cons, aget_cons]
    split
    · rfl
    · exact ih
theorem gE_ups (L : GLg α) (x : QK) (v : Value) (l : List α) : ups (gE L) x v = gE (ups L x (v, l)) := by
  unfold gE
  induction L with
  | nil => rfl
  | cons p L ih =>
    simp only [List.map_cons, ups]
    split
    · rfl
    · rw [ih]; rfl
theorem gV_ups (L : GLg α) (x y : QK) (v : Value) (l : List α) : gV (ups L x (v, l)) y = if x = y then v else gV L y := by
  unfold gV
  rw [aget_ups]
  split <;> rfl
theorem gL_ups (L : GLg α) (x y : QK) (v : Value) (l : List α) : gL (ups L x (v, l)) y = if x = y then l else gL L y := by
  unfold gL
  rw [aget_ups]
  split <;> rfl
/-- a map whose values are rows of its own -/
structure MR (T : TypeId) (sz : Nat) (enc : List α → List Value) (w : World) (bm : Nat) (L : GLg α) : Prop where
  mp : MapAt Try.prog 43 Inp.qk w bm (gE L)
  row : ∀ x, w.ownsRow 0 T sz (gV L x) (gL L x).length (enc (gL L x))
  dj : ∀ x y, x ≠ y → disj (gV L x) (gV L y)
theorem own_at {w : World} {B sz : Nat} {e : TypeId} {v : Value} {n : Nat} {xs : List Value} (h : w.ownsRow B e sz v n xs) {g : Nat} (hg : v.ownBlock = some g) : ∃ cur, w.heap[g]? = some (.cells cur e (0, 0)) := by
  rcases h.2 with ⟨rfl, _⟩ | ⟨g', cap, cur, rfl, _, h2, _⟩
  · simp [Value.ownBlock] at hg
  · simp only [Value.ownBlock, Option.some.injEq] at hg
    subst hg
    exact ⟨cur, h2⟩
/-- the type of a block's elements; none: a map -/
def tyAt (w : World) (g : Nat) : Option (Option TypeId) := match w.heap[g]? with
  | some (.cells _ T _) => some (some T)
  | some (.map _ _) => some none
  | _ => none
theorem tyAt_own {w : World} {B sz : Nat} {e : TypeId} {v : Value} {n : Nat} {xs : List Value} (h : w.ownsRow B e sz v n xs) {g : Nat} (hg : v.ownBlock = some g) : tyAt w g = some (some e) := by
  obtain ⟨cur, h⟩ := own_at h hg
  unfold tyAt; rw [h]
theorem tyAt_cells {w : World} {g : Nat} {c : Array Value} {T : TypeId} {fr : Nat × Nat} (h : w.heap[g]? = some (.cells c T fr)) : tyAt w g = some (some T) := by unfold tyAt; rw [h]
theorem tyAt_map {w : World} {g : Nat} {es : List (QK × Value)} (h : MapAt Try.prog 43 Inp.qk w g es) : tyAt w g = some none := by
  obtain ⟨arr, clock, h, _⟩ := h
  unfold tyAt; rw [h]
theorem tyAt_ints {w : World} {a : Option Addr} {n cap : Nat} {xs : List Int} (h : Inp.Ints w (.slice a n cap) xs) {g : Nat} (hg : g ∈ oblk a) : tyAt w g = some (some 3) := by
  rcases h with ⟨h, _⟩ | ⟨g', off, cap', c, fr, h, _, _, hh, _⟩
  · simp only [Value.slice.injEq] at h; rw [h.1] at hg; simp [oblk] at hg
  · simp only [Value.slice.injEq] at h; rw [h.1] at hg; simp [oblk] at hg; subst hg; exact tyAt_cells hh
theorem tyAt_lt {w : World} {g : Nat} {t : Option TypeId} (h : tyAt w g = some t) : g < w.heap.size := by
  unfold tyAt at h
  split at h
  · rename_i hh; exact lt_of_obj hh
  · rename_i hh; exact lt_of_obj hh
  · cases h
theorem tyAt_eq {w w' : World} {g : Nat} (h : w'.heap[g]? = w.heap[g]?) : tyAt w' g = tyAt w g := by unfold tyAt; rw [h]
variable {T : TypeId} {sz : Nat} {enc : List α → List Value}
theorem MR.kept {S : Nat → Prop} {w w' : World} {bm : Nat} {L : GLg α} (h : MR T sz enc w bm L) (hc : ChgP S w w') (h1 : ¬ S bm) (h2 : ∀ x g, (gV L x).ownBlock = some g → ¬ S g) : MR T sz enc w' bm L :=
  ⟨h.mp.of_block (hc.block _ h.mp.lt h1), fun x => ownsRow_kept (h.row x) fun g hg hl => hc.block g hl (h2 x g hg), h.dj⟩
theorem MR.lt {w : World} {bm : Nat} {L : GLg α} (h : MR T sz enc w bm L) {x : QK} {g : Nat} (hg : (gV L x).ownBlock = some g) : g < w.heap.size := ((h.row x).lt g hg).2
theorem MR.look {w : World} {bm : Nat} {L : GLg α} (h : MR T sz enc w bm L) (x : QK) (hx : Inp.QKok x) {t et : TypeId} (ht : Try.prog.underlying t = some (.map 43 et)) (hz : ∀ w, (zeroValue et).run Try.prog w = .ok (.slice none 0 0) w) :
    (Instr.lookup t (.map (some bm)) (Inp.qk x) false).run Try.prog w = .ok (gV L x) w := by
  have := h.mp.lookup Inp.qkeyed Inp.qk_inj ht (Inp.qkOk hx) (hz w) false
  rw [gE_get] at this
  rw [this]
  unfold gV
  cases aget L x <;> rfl
/-- a row of the map has grown -/
theorem MR.push {w w3 : World} {bm : Nat} {L : GLg α} (h : MR T sz enc w bm L) (x : QK) {v' : Value} {l' : List α} {o : Obj} (hv : w3.ownsRow 0 T sz v' l'.length (enc l')) (hc : ChgP (fun g => (gV L x).ownBlock = some g ∨ g = bm) w w3)
    (hn : ∀ g, v'.ownBlock = some g → (gV L x).ownBlock = some g ∨ w.heap.size ≤ g) (hm : MapAt Try.prog 43 Inp.qk (setBlock w3 bm o) bm (ups (gE L) x v')) (hb : ∀ g, v'.ownBlock = some g → g ≠ bm) : MR T sz enc (setBlock w3 bm o) bm (ups L x (v', l')) := by
  have hs : ChgP (fun g => g = bm) w3 (setBlock w3 bm o) := (ChgP.refl (fun g => g = bm) w3).setBlock (Or.inl rfl) o
  have hrb : ∀ y g, (gV L y).ownBlock = some g → g ≠ bm := fun y g hg e => by
    have h1 := tyAt_own (h.row y) hg
    have h2 := tyAt_map h.mp
    rw [e, h2] at h1
    cases h1
  have hrow : ∀ y, x ≠ y → (setBlock w3 bm o).ownsRow 0 T sz (gV L y) (gL L y).length (enc (gL L y)) := fun y hy =>
    ownsRow_kept (h.row y) fun g hg hl => ((hs.block g (Nat.lt_of_lt_of_le hl hc.size) (hrb y g hg)).trans (hc.block g hl fun e => e.elim (fun e => h.dj x y hy g e hg) (hrb y g hg)))
  have hold : ∀ y, x ≠ y → disj v' (gV L y) := fun y hy g hg hg' => (hn g hg).elim (fun e => h.dj x y hy g e hg') fun e => by have := h.lt hg'; omega
  refine ⟨by rw [gE_ups] at hm; exact hm, fun y => ?_, fun y z hyz => ?_⟩
  · rw [gV_ups, gL_ups]
    by_cases hy : x = y
    · rw [if_pos hy, if_pos hy]
      exact ownsRow_kept hv fun g hg hl => hs.block g hl (hb g hg)
    · rw [if_neg hy, if_neg hy]; exact hrow y hy
  · rw [gV_ups, gV_ups]
    by_cases hy : x = y
    · rw [if_pos hy, if_neg (fun e => hyz (hy.symm.trans e))]
      exact hold z (fun e => hyz (hy.symm.trans e))
    · rw [if_neg hy]
      by_cases hz : x = z
      · rw [if_pos hz]
        exact fun g hg hg' => hold y hy g hg' hg
      · rw [if_neg hz]; exact h.dj y z hyz
end
/-! ### the history -/
/-- a version -/
structure Ve where
  rev : Int
  a : Option Addr
  cap : Nat
  xs : List Int
def encV (l : List Ve) : List Value := l.flatMap fun e => [.int .i64 e.rev, .slice e.a e.xs.length e.cap, .string ⟨#[]⟩]
/-- a result: the block of its struct -/
structure Rs where
  blk : Nat
  first : Int
  last : Int
  a : Option Addr
  cap : Nat
  xs : List Int
  iv : Value
  ins : List QK
def Rs.val (r : Rs) : Value := .pointer (some ⟨r.blk, 0, none⟩)
def Rs.pl (r : Rs) : RR := ⟨r.first, r.last, r.xs, r.ins⟩
def encR (l : List Rs) : List Value := l.map Rs.val
structure RsAt (w : World) (r : Rs) : Prop where
  blk : w.heap[r.blk]? = some (.cells #[.int .i64 r.first, .int .i64 r.last, .slice r.a r.xs.length r.cap, .string ⟨#[]⟩, r.iv] 93 (0, 0))
  nums : Inp.Ints w (.slice r.a r.xs.length r.cap) r.xs
  size : r.xs.length * 8 ≤ 140737488355328
  ins : w.ownsRow 0 43 3 r.iv r.ins.length (flat3 r.ins)
structure Hm where
  b : Nat
  bv : Nat
  br : Nat
  comp : Value
  mu : Int
  VL : GLg Ve
  RL : GLg Rs
  lat : Int
  old : Int
  cnt : Int
def Ve.pl (e : Ve) : Int × List Int := (e.rev, e.xs)
def Hm.pl (d : Hm) : HS := ⟨fun x => (gL d.VL x).map Ve.pl, fun x => (gL d.RL x).map Rs.pl, d.lat, d.old, d.cnt⟩
def Hm.head (d : Hm) : Array Value := #[.int .i32 d.mu, .int .u32 0, d.comp, .map (some d.bv), .map (some d.br), .int .i64 d.lat, .int .i64 d.old, .int .i64 d.cnt]
structure HmAt (w : World) (d : Hm) : Prop where
  box : w.heap[d.b]? = some (.cells d.head 80 (0, 0))
  V : MR 130 3 encV w d.bv d.VL
  R : MR 94 1 encR w d.br d.RL
  vn : ∀ x, ∀ e ∈ gL d.VL x, Inp.Ints w (.slice e.a e.xs.length e.cap) e.xs ∧ e.xs.length * 8 ≤ 140737488355328
  each : ∀ x, ∀ r ∈ gL d.RL x, RsAt w r
  inj : ∀ (x y : QK) (i j : Nat) (r r' : Rs), (gL d.RL x)[i]? = some r → (gL d.RL y)[j]? = some r' → r.blk = r'.blk → x = y ∧ i = j
  ne : d.bv ≠ d.br
/-- what the history writes -/
def Hm.M (d : Hm) (g : Nat) : Prop := g = d.b ∨ g = d.bv ∨ g = d.br ∨ (∃ x, (gV d.VL x).ownBlock = some g) ∨ (∃ x, (gV d.RL x).ownBlock = some g) ∨ ∃ x r, r ∈ gL d.RL x ∧ g = r.blk
/-- what it only reads -/
def Hm.I (d : Hm) (g : Nat) : Prop := (∃ x e, e ∈ gL d.VL x ∧ g ∈ oblk e.a) ∨ ∃ x r, r ∈ gL d.RL x ∧ (g ∈ oblk r.a ∨ r.iv.ownBlock = some g)
def histTys : List (Option TypeId) := [some 80, none, some 130, some 94, some 93]
theorem HmAt.tyM {w : World} {d : Hm} (h : HmAt w d) {g : Nat} (hg : d.M g) : ∃ t ∈ histTys, tyAt w g = some t := by
  rcases hg with rfl | rfl | rfl | ⟨x, hx⟩ | ⟨x, hx⟩ | ⟨x, r, hr, rfl⟩
  · exact ⟨_, by simp [histTys], tyAt_cells h.box⟩
  · exact ⟨_, by simp [histTys], tyAt_map h.V.mp⟩
  · exact ⟨_, by simp [histTys], tyAt_map h.R.mp⟩
  · exact ⟨_, by simp [histTys], tyAt_own (h.V.row x) hx⟩
  · exact ⟨_, by simp [histTys], tyAt_own (h.R.row x) hx⟩
  · exact ⟨_, by simp [histTys], tyAt_cells (h.each x r hr).blk⟩
theorem HmAt.tyI {w : World} {d : Hm} (h : HmAt w d) {g : Nat} (hg : d.I g) : tyAt w g = some (some 3) ∨ tyAt w g = some (some 43) := by
  rcases hg with ⟨x, e, he, hg⟩ | ⟨x, r, hr, hg | hg⟩
  · exact Or.inl (tyAt_ints (h.vn x e he).1 hg)
  · exact Or.inl (tyAt_ints (h.each x r hr).nums hg)
  · exact Or.inr (tyAt_own (h.each x r hr).ins hg)
theorem ne_tyM {t : Option TypeId} (h1 : (histTys.contains t) = false) {w : World} {d : Hm} (h : HmAt w d) {g : Nat} (hg : tyAt w g = some t) : ¬ d.M g := fun hm => by
  obtain ⟨t', h2, h3⟩ := h.tyM hm
  rw [hg] at h3
  cases h3
  simp [h2] at h1
theorem HmAt.apart {w : World} {d : Hm} (h : HmAt w d) {g : Nat} (hg : d.I g) : ¬ d.M g :=
  (h.tyI hg).elim (fun e => ne_tyM (by decide) h e) fun e => ne_tyM (by decide) h e
theorem HmAt.ltM {w : World} {d : Hm} (h : HmAt w d) {g : Nat} (hg : d.M g) : g < w.heap.size := by
  obtain ⟨t, _, ht⟩ := h.tyM hg
  exact tyAt_lt ht
theorem HmAt.ltI {w : World} {d : Hm} (h : HmAt w d) {g : Nat} (hg : d.I g) : g < w.heap.size := (h.tyI hg).elim tyAt_lt tyAt_lt
theorem RsAt.kept {w w' : World} {r : Rs} (h : RsAt w r) (hb : w'.heap[r.blk]? = w.heap[r.blk]?) (ha : ∀ g ∈ oblk r.a, w'.heap[g]? = w.heap[g]?) (hi : ∀ g, r.iv.ownBlock = some g → w'.heap[g]? = w.heap[g]?) : RsAt w' r :=
  ⟨hb.trans h.blk, intsKept' h.nums ha, h.size, ownsRow_kept h.ins fun g hg _ => hi g hg⟩
theorem HmAt.kept {S : Nat → Prop} {w w' : World} {d : Hm} (h : HmAt w d) (hc : ChgP S w w') (hm : ∀ g, d.M g → ¬ S g) (hi : ∀ g, d.I g → ¬ S g) : HmAt w' d := by
  have hI : ∀ g, d.I g → w'.heap[g]? = w.heap[g]? := fun g hg => hc.block g (h.ltI hg) (hi g hg)
  exact ⟨(hc.block _ (lt_of_obj h.box) (hm _ (Or.inl rfl))).trans h.box,
   h.V.kept hc (hm _ (Or.inr (Or.inl rfl))) fun x g hg => hm g (Or.inr (Or.inr (Or.inr (Or.inl ⟨x, hg⟩)))),
   h.R.kept hc (hm _ (Or.inr (Or.inr (Or.inl rfl)))) fun x g hg => hm g (Or.inr (Or.inr (Or.inr (Or.inr (Or.inl ⟨x, hg⟩))))),
   fun x e he => ⟨intsKept' (h.vn x e he).1 fun g hg => hI g (Or.inl ⟨x, e, he, hg⟩), (h.vn x e he).2⟩,
   fun x r hr => (h.each x r hr).kept (hc.block _ (lt_of_obj (h.each x r hr).blk) (hm _ (Or.inr (Or.inr (Or.inr (Or.inr (Or.inr ⟨x, r, hr, rfl⟩))))))) (fun g hg => hI g (Or.inr ⟨x, r, hr, Or.inl hg⟩)) fun g hg => hI g (Or.inr ⟨x, r, hr, Or.inr hg⟩),
   h.inj, h.ne⟩
theorem HmAt.new {w w' : World} {d : Hm} (h : HmAt w d) (hc : Chg [] w w') : HmAt w' d := h.kept (S := fun _ => False) hc.p (fun _ _ h => h) (fun _ _ h => h)
/-- a change of the struct alone -/
theorem HmAt.heads {w : World} {d d' : Hm} (h : HmAt w d) (hb : d'.b = d.b) (hbv : d'.bv = d.bv) (hbr : d'.br = d.br) (hV : d'.VL = d.VL) (hR : d'.RL = d.RL) {i : Nat} {v : Value} (hh : d.head.setIfInBounds i v = d'.head) : HmAt (w.setCell ⟨d.b, i, none⟩ v) d' := by
  have hc : ChgP (fun g => g = d.b) w (w.setCell ⟨d.b, i, none⟩ v) := (ChgP.refl (fun g => g = d.b) w).setCell (p := ⟨d.b, i, none⟩) (Or.inl rfl) v
  have hI : ∀ g, d.I g → (w.setCell ⟨d.b, i, none⟩ v).heap[g]? = w.heap[g]? := fun g hg => hc.block g (h.ltI hg) fun e => h.apart hg (Or.inl e)
  have hty : ∀ g t, t ≠ some 80 → tyAt w g = some t → ¬ g = d.b := fun g t ht hg e => by
    rw [e, tyAt_cells h.box] at hg
    cases hg
    exact ht rfl
  refine ⟨?_, ?_, ?_, ?_, ?_, ?_, ?_⟩
  · rw [hb, heap_setCell_same h.box, hh]
  · rw [hbv, hV]; exact h.V.kept hc (hty _ _ (by simp) (tyAt_map h.V.mp)) fun x g hg => hty _ _ (by decide) (tyAt_own (h.V.row x) hg)
  · rw [hbr, hR]; exact h.R.kept hc (hty _ _ (by simp) (tyAt_map h.R.mp)) fun x g hg => hty _ _ (by decide) (tyAt_own (h.R.row x) hg)
  · rw [hV]; exact fun x e he => ⟨intsKept' (h.vn x e he).1 fun g hg => hI g (Or.inl ⟨x, e, he, hg⟩), (h.vn x e he).2⟩
  · rw [hR]; exact fun x r hr => (h.each x r hr).kept (hc.block _ (lt_of_obj (h.each x r hr).blk) (hty _ _ (by decide) (tyAt_cells (h.each x r hr).blk))) (fun g hg => hI g (Or.inr ⟨x, r, hr, Or.inl hg⟩)) fun g hg => hI g (Or.inr ⟨x, r, hr, Or.inr hg⟩)
  · rw [hR]; exact h.inj
  · rw [hbv, hbr]; exact h.ne
theorem HmAt.notInt {w : World} {d : Hm} (h : HmAt w d) {g : Nat} (hg : d.M g) : NotE 3 w g := fun c fr e => by
  exact ne_tyM (t := some 3) (by decide) h (tyAt_cells e) hg
end Go.Proofs.Ytggiddhhbilcjaa.Sn
