/- The graph in memory. -/
import Derived.Test.YtenjjiilcdgimaaDgE
import Derived.Test.YtenjjiilcdgimaaDel
import Derived.Test.YtenjjiilcdgimaaDgPlainB
import Derived.ProofKit
import Derived.Deep.Slices
namespace Go.Proofs.Ytenjjiilcdgimaa
open Go.RowKit Go.ChangeMaps Go.MapKept Go.Shelf
open Go.Maps (Keyed)
set_option linter.unusedVariables false
set_option linter.unusedSimpArgs false
theorem i3v_inj (x y : I3) (h : i3v x = i3v y) : x = y := by
  obtain ⟨a, b, c⟩ := x
  obtain ⟨d, e, f⟩ := y
  simp only [i3v, Value.agg.injEq] at h
  have h1 := congrArg Array.toList h
  simp at h1
  simp [h1]
def In64 (n : Int) : Prop := -9223372036854775808 ≤ n ∧ n ≤ 9223372036854775807
def QKok (k : I3) : Prop := In64 k.1 ∧ In64 k.2.1 ∧ In64 k.2.2
theorem wf64 {n : Int} (h : In64 n) : (Lit.int .i64 n).wf = true := WalkArith.wf_i64 h
/-- a struct of three ints is a key -/
theorem keyOk3 {P : Program} {t ti : TypeId} {f0 f1 f2 : Field} (hu : P.underlying t = some (.struct #[f0, f1, f2])) (h0 : f0.type = ti) (h1 : f1.type = ti) (h2 : f2.type = ti) (o0 : f0.offset = 0) (o1 : f1.offset = 1) (o2 : f2.offset = 2)
    (hn : (f0.name != "_" && f1.name != "_" && f2.name != "_") = true) (hi : P.underlying ti = some (.int .i64)) (hk : P.keyType t = true) (hc : P.cellsOf t = 3) (hci : P.cellsOf ti = 1) (hsz : 0 < P.types.size) {a b c : Int} (wa : (Lit.int .i64 a).wf = true) (wb : (Lit.int .i64 b).wf = true) (wc : (Lit.int .i64 c).wf = true) :
    KeyOk P t (.agg #[.int .i64 a, .int .i64 b, .int .i64 c]) := by
  obtain ⟨m, hm⟩ : ∃ m, P.types.size = m + 1 := ⟨P.types.size - 1, by omega⟩
  have e : ∀ n, (Lit.int .i64 n).wf = true → P.keyLits (m + 1) ti [.int .i64 n] = some [.int .i64 n] := fun n hn => by
    unfold Program.keyLits
    rw [hi]
    simp [hn]
  have e2 : P.keyLits (m + 1 + 1) t [.int .i64 a, .int .i64 b, .int .i64 c] = some [.int .i64 a, .int .i64 b, .int .i64 c] := by
    unfold Program.keyLits
    rw [hu]
    simp only [Bool.and_eq_true] at hn
    simp [hc, h0, h1, h2, o0, o1, o2, hci, e a wa, e b wb, e c wc, hn]
  unfold KeyOk keyOf
  rw [hu]
  simp [hk, Value.formed, hu, hc, Value.cells, hm, e2]
theorem Try.laidOut : laidOutB Try.prog = true := by kernel_rfl
theorem Try.rowQK : (24 : TypeId) < Try.prog.types.size := of_decide_eq_true (by kernel_rfl)
theorem Try.wideQK : (match Try.prog.underlying 24 with | some (.array _ _) | some (.struct _) => true | _ => false) = true := by rw [Try.underlying24]
theorem Try.cellsQK : Try.prog.cellsOf 24 = 3 := by kernel_rfl
theorem Try.cellsInt : Try.prog.cellsOf 3 = 1 := by kernel_rfl
theorem Try.keysQK : Try.prog.keyType 24 = true := by kernel_rfl
set_option maxRecDepth 100000 in
theorem qkeyed : Keyed Try.prog 24 := Keyed.of_law (deep_law_laid Try.laidOut (m := 2) (by omega) Try.rowQK (by kernel_rfl) Try.wideQK)
theorem qkOk {k : I3} (h : QKok k) : KeyOk Try.prog 24 (i3v k) :=
  keyOk3 Try.underlying24 rfl rfl rfl rfl rfl rfl (by decide) Try.underlying3 Try.keysQK Try.cellsQK Try.cellsInt (Nat.lt_of_le_of_lt (Nat.zero_le _) Try.rowQK) (wf64 h.1) (wf64 h.2.1) (wf64 h.2.2)


/-! ### the graph -/
abbrev GL := List (I3 × Value × List I3)
def disj (a b : Value) : Prop := ∀ g, a.ownBlock = some g → b.ownBlock ≠ some g
theorem zeroKs (w : World) : (zeroValue 26).run Try.prog w = .ok (.slice none 0 0) w := by
  have h : (Try.prog.info? 26).map (fun i => (i.zero, i.size, i.bytes)) = some (some (.slice none 0 0), 1, 24) := by kernel_rfl
  obtain ⟨i0, hi, hz0, hz1, hz2⟩ := info_parts h
  simp [zeroValue, typeInfo, hi, hz0]
def glE (L : GL) : List (I3 × Value) := L.map fun p => (p.1, p.2.1)
theorem glE_get (L : GL) (x : I3) : aget (glE L) x = (aget L x).map (·.1) := by
  unfold glE
  induction L with
  | nil => rfl
  | cons p L ih =>
    simp only [List.map_cons, aget_cons]
    split
    · rfl
    · exact ih
theorem glE_ups (L : GL) (x : I3) (v : Value) (l : List I3) : ups (glE L) x v = glE (ups L x (v, l)) := by
  unfold glE
  induction L with
  | nil => rfl
  | cons p L ih =>
    simp only [List.map_cons, ups]
    split
    · rfl
    · rw [ih]; rfl
def glN (L : GL) : Nx := L.map fun p => (p.1, p.2.2)
theorem glN_get (L : GL) (x : I3) : aget (glN L) x = (aget L x).map (·.2) := by
  unfold glN
  induction L with
  | nil => rfl
  | cons p L ih =>
    simp only [List.map_cons, aget_cons]
    split
    · rfl
    · exact ih
theorem glN_ups (L : GL) (x : I3) (v : Value) (l : List I3) : ups (glN L) x l = glN (ups L x (v, l)) := by
  unfold glN
  induction L with
  | nil => rfl
  | cons p L ih =>
    simp only [List.map_cons, ups]
    split
    · rfl
    · rw [ih]; rfl
def glV (L : GL) (x : I3) : Value := ((aget L x).map (·.1)).getD (.slice none 0 0)
def glL (L : GL) (x : I3) : List I3 := ((aget L x).map (·.2)).getD []
/-- the graph being built: rows of its own, no two of them in one block -/
structure GrAt (w : World) (B gb bm : Nat) (L : GL) (kv : Value) (K : List I3) : Prop where
  box : w.heap[gb]? = some (.cells #[.map (some bm), kv] 52 (0, 0))
  mp : MapAt Try.prog 24 i3v w bm (glE L)
  row : ∀ x, OwnK w B (glV L x) (glL L x)
  dj : ∀ x y, x ≠ y → disj (glV L x) (glV L y)
  kw : OwnK w B kv K
  dk : ∀ x, disj (glV L x) kv
theorem own_at {w : World} {B sz : Nat} {e : TypeId} {v : Value} {n : Nat} {xs : List Value} (h : w.ownsRow B e sz v n xs) {g : Nat} (hg : v.ownBlock = some g) : ∃ cur, w.heap[g]? = some (.cells cur e (0, 0)) := by
  rcases h.2 with ⟨rfl, _⟩ | ⟨g', cap, cur, rfl, _, h2, _⟩
  · simp [Value.ownBlock] at hg
  · simp only [Value.ownBlock, Option.some.injEq] at hg
    subst hg
    exact ⟨cur, h2⟩
theorem own_obj {w : World} {B sz : Nat} {e T : TypeId} {v : Value} {n : Nat} {xs : List Value} (h : w.ownsRow B e sz v n xs) {b : Nat} {cs : Array Value} {fr : Nat × Nat} (hb : w.heap[b]? = some (.cells cs T fr)) (hT : T ≠ e) : v.ownBlock ≠ some b := fun hg => by
  obtain ⟨cur, h2⟩ := own_at h hg
  rw [hb] at h2
  simp only [Option.some.injEq, Obj.cells.injEq] at h2
  exact hT h2.2.1
theorem own_map {w : World} {B sz : Nat} {e : TypeId} {v : Value} {n : Nat} {xs : List Value} {bm : Nat} {es : List (I3 × Value)} (h : w.ownsRow B e sz v n xs) (hm : MapAt Try.prog 24 i3v w bm es) : v.ownBlock ≠ some bm := fun hg => by
  obtain ⟨cur, h2⟩ := own_at h hg
  obtain ⟨arr, clock, h1, _⟩ := hm
  rw [h1] at h2
  simp at h2
theorem GrAt.same {w w' : World} {B gb bm : Nat} {L : GL} {kv : Value} {K : List I3} (h : GrAt w B gb bm L kv K) (hc : Chg [] w w') : GrAt w' B gb bm L kv K :=
  ⟨(hc.block _ (lt_of_obj h.box) (by simp)).trans h.box, h.mp.kept hc (by simp), fun x => (h.row x).same hc, h.dj, h.kw.same hc, h.dk⟩
theorem GrAt.look {w : World} {B gb bm : Nat} {L : GL} {kv : Value} {K : List I3} (h : GrAt w B gb bm L kv K) (x : I3) (hx : QKok x) :
    (Instr.lookup 50 (.map (some bm)) (i3v x) false).run Try.prog w = .ok (glV L x) w := by
  have := h.mp.lookup qkeyed i3v_inj Try.underlying50 (qkOk hx) (zeroKs w) false
  rw [glE_get] at this
  rw [this]
  unfold glV
  cases aget L x <;> rfl
theorem glV_ups (L : GL) (x y : I3) (v : Value) (l : List I3) : glV (ups L x (v, l)) y = if x = y then v else glV L y := by
  unfold glV
  rw [aget_ups]
  split <;> rfl
theorem glL_ups (L : GL) (x y : I3) (v : Value) (l : List I3) : glL (ups L x (v, l)) y = if x = y then l else glL L y := by
  unfold glL
  rw [aget_ups]
  split <;> rfl
theorem map_obj {w : World} {bm g : Nat} {es : List (I3 × Value)} {cs : Array Value} {T : TypeId} {fr : Nat × Nat} (hm : MapAt Try.prog 24 i3v w bm es) (hb : w.heap[g]? = some (.cells cs T fr)) : g ≠ bm := fun e => by
  obtain ⟨arr, clock, h1, _⟩ := hm
  rw [e, h1] at hb
  simp at hb
theorem chg_setBlock (w : World) (b : Nat) (o : Obj) : Chg [b] w (setBlock w b o) := (Chg.refl [b] w).setBlock (Or.inl (by simp)) o
/-- a row of the map has grown -/
theorem GrAt.upd {w w3 : World} {B gb bm : Nat} {L : GL} {kv : Value} {K : List I3} (h : GrAt w B gb bm L kv K) (x : I3) {v' : Value} {l' : List I3} {o : Obj} (hv : OwnK w3 B v' l') (hc : Chg (glV L x).ownBlock.toList w w3)
    (hn : ∀ g, v'.ownBlock = some g → (glV L x).ownBlock = some g ∨ w.heap.size ≤ g) (hm : MapAt Try.prog 24 i3v (setBlock w3 bm o) bm (ups (glE L) x v')) : GrAt (setBlock w3 bm o) B gb bm (ups L x (v', l')) kv K := by
  have hbg : gb ∉ (glV L x).ownBlock.toList := fun hm => own_obj (h.row x) h.box (by decide) (by simpa using hm)
  have hbm : bm ∉ (glV L x).ownBlock.toList := fun hm => own_map (h.row x) h.mp (by simpa using hm)
  have hb3 := (hc.block _ (lt_of_obj h.box) hbg).trans h.box
  have hm3 : MapAt Try.prog 24 i3v w3 bm (glE L) := h.mp.kept hc hbm
  have hs := chg_setBlock w3 bm o
  have hrow : ∀ y, x ≠ y → OwnK w3 B (glV L y) (glL L y) := fun y hy => (h.row y).kept hc.toP fun g hg hm => h.dj x y hy g (by simpa using hm) hg
  have hkw : OwnK w3 B kv K := h.kw.kept hc.toP fun g hg hm => h.dk x g (by simpa using hm) hg
  have hset : ∀ {v : Value} {l : List I3}, OwnK w3 B v l → OwnK (setBlock w3 bm o) B v l := fun hv => hv.kept hs.toP fun g hg hm => own_map hv hm3 (by rw [hg, List.mem_singleton.1 hm])
  have hold : ∀ y, x ≠ y → disj v' (glV L y) := fun y hy g hg hg' => (hn g hg).elim (fun e => h.dj x y hy g e hg') fun e => by have := ((h.row y).lt g hg').2; omega
  refine ⟨(hs.block _ (lt_of_obj hb3) (by simpa using map_obj hm3 hb3)).trans hb3, by rw [glE_ups] at hm; exact hm, fun y => ?_, fun y z hyz => ?_, hset hkw, fun y => ?_⟩
  · rw [glV_ups, glL_ups]
    by_cases hy : x = y
    · rw [if_pos hy, if_pos hy]; exact hset hv
    · rw [if_neg hy, if_neg hy]; exact hset (hrow y hy)
  · rw [glV_ups, glV_ups]
    by_cases hy : x = y
    · rw [if_pos hy, if_neg (fun e => hyz (hy.symm.trans e))]
      exact hold z (fun e => hyz (hy.symm.trans e))
    · rw [if_neg hy]
      by_cases hz : x = z
      · rw [if_pos hz]
        exact fun g hg hg' => hold y hy g hg' hg
      · rw [if_neg hz]; exact h.dj y z hyz
  · rw [glV_ups]
    split
    · exact fun g hg hg' => (hn g hg).elim (fun e => h.dk x g e hg') fun e => by have := (h.kw.lt g hg').2; omega
    · exact h.dk y
/-- the row of all keys has grown -/
theorem GrAt.updK {w w3 : World} {B gb bm : Nat} {L : GL} {kv : Value} {K : List I3} (h : GrAt w B gb bm L kv K) {v' : Value} {K' : List I3} (hv : OwnK w3 B v' K') (hc : Chg kv.ownBlock.toList w w3)
    (hn : ∀ g, v'.ownBlock = some g → kv.ownBlock = some g ∨ w.heap.size ≤ g) : GrAt (w3.setCell ⟨gb, 1, none⟩ v') B gb bm L v' K' := by
  have hbg : gb ∉ kv.ownBlock.toList := fun hm => own_obj h.kw h.box (by decide) (by simpa using hm)
  have hbm : bm ∉ kv.ownBlock.toList := fun hm => own_map h.kw h.mp (by simpa using hm)
  have hb3 := (hc.block _ (lt_of_obj h.box) hbg).trans h.box
  have hm3 : MapAt Try.prog 24 i3v w3 bm (glE L) := h.mp.kept hc hbm
  have hs : Chg [gb] w3 (w3.setCell ⟨gb, 1, none⟩ v') := (Chg.refl [gb] w3).setCell (p := ⟨gb, 1, none⟩) (Or.inl (by simp)) _
  have hset : ∀ {v : Value} {l : List I3}, OwnK w3 B v l → OwnK (w3.setCell ⟨gb, 1, none⟩ v') B v l := fun hv => hv.kept hs.toP fun g hg hm => own_obj hv hb3 (by decide) (by rw [hg, List.mem_singleton.1 hm])
  refine ⟨heap_setCell_same hb3 v', hm3.kept hs (by simpa using (map_obj hm3 hb3).symm), fun y => hset ((h.row y).kept hc.toP fun g hg hm => h.dk y g hg (by simpa using hm)), h.dj, hset hv, fun y g hg hg' => ?_⟩
  exact (hn g hg').elim (fun e => h.dk y g hg e) fun e => by have := ((h.row y).lt g hg).2; omega
end Go.Proofs.Ytenjjiilcdgimaa
