/- The inputs store: what it is in memory ('StoreIs'), its keys, and the contracts of New, Revision, LastChange, Get. -/
import Derived.Test.YtdeodcomlakpaaaMiA
import Derived.DeepKeys4
namespace Go.Proofs.Ytdeodcomlakpaaa.Inp
open Go.RowKit Go.ChangeMaps Go.MapKept
open Go.Maps (Keyed)

/-! ### keys -/
abbrev QK := Int × Int × Int
def qk (k : QK) : Value := .agg #[.int .i64 k.1, .int .i64 k.2.1, .int .i64 k.2.2]
theorem qk_inj (x y : QK) (h : qk x = qk y) : x = y := by
  obtain ⟨a, b, c⟩ := x
  obtain ⟨d, e, f⟩ := y
  simp only [qk, Value.agg.injEq] at h
  have h1 := congrArg Array.toList h
  simp at h1
  simp [h1]
def In64 (n : Int) : Prop := -9223372036854775808 ≤ n ∧ n ≤ 9223372036854775807
def QKok (k : QK) : Prop := In64 k.1 ∧ In64 k.2.1 ∧ In64 k.2.2
theorem wf64 {n : Int} (h : In64 n) : (Lit.int .i64 n).wf = true := WalkArith.wf_i64 h
/-- a struct of three ints is a key -/
theorem keyOk3 {P : Program} {t ti : TypeId} {f0 f1 f2 : Field} (hu : P.underlying t = some (.struct #[f0, f1, f2])) (h0 : f0.type = ti) (h1 : f1.type = ti) (h2 : f2.type = ti) (o0 : f0.offset = 0) (o1 : f1.offset = 1) (o2 : f2.offset = 2)
    (hn : (f0.name != "_" && f1.name != "_" && f2.name != "_") = true) (hi : P.underlying ti = some (.int .i64)) (hk : P.keyType t = true) (hc : P.cellsOf t = 3) (hci : P.cellsOf ti = 1) (hsz : 0 < P.types.size) {a b c : Int} (wa : (Lit.int .i64 a).wf = true) (wb : (Lit.int .i64 b).wf = true) (wc : (Lit.int .i64 c).wf = true) :
    KeyOk P t (.agg #[.int .i64 a, .int .i64 b, .int .i64 c]) := by
  obtain ⟨m, hm⟩ : ∃ m, P.types.size = m + 1 := ⟨P.types.size - 1, by omega⟩
  have e : ∀ n, (Lit.int .i64 n).wf = true → P.keyLits (m + 1) ti [.int .i64 n] = some [.int .i64 n] := fun n hn => by
    unfold Program.keyLits
    rw [hi]
    simp [hn]
  have e2 : P.keyLits (m + 1 + 1) t [.int .i64 a, .int .i64 b, .int .i64 c] = some [.int .i64 a, .int .i64 b, .int .i64 c] := by
    unfold Program.keyLits
    rw [hu]
    simp only [Bool.and_eq_true] at hn
    simp [hc, h0, h1, h2, o0, o1, o2, hci, e a wa, e b wb, e c wc, hn]
  unfold KeyOk keyOf
  rw [hu]
  simp [hk, Value.formed, hu, hc, Value.cells, hm, e2]
theorem Try.laidOut : laidOutB Try.prog = true := by kernel_rfl
theorem Try.rowQK : (27 : TypeId) < Try.prog.types.size := of_decide_eq_true (by kernel_rfl)
theorem Try.wideQK : (match Try.prog.underlying 27 with | some (.array _ _) | some (.struct _) => true | _ => false) = true := by rw [Try.underlying27]
theorem Try.cellsQK : Try.prog.cellsOf 27 = 3 := by kernel_rfl
theorem Try.cellsInt : Try.prog.cellsOf 3 = 1 := by kernel_rfl
theorem Try.keysQK : Try.prog.keyType 27 = true := by kernel_rfl
set_option maxRecDepth 100000 in
theorem qkeyed : Keyed Try.prog 27 := Keyed.of_law (deep_law_laid Try.laidOut (m := 2) (by omega) Try.rowQK (by kernel_rfl) Try.wideQK)
theorem qkOk {k : QK} (h : QKok k) : KeyOk Try.prog 27 (qk k) :=
  keyOk3 Try.underlying27 rfl rfl rfl rfl rfl rfl (by decide) Try.underlying3 Try.keysQK Try.cellsQK Try.cellsInt (Nat.lt_of_le_of_lt (Nat.zero_le _) Try.rowQK) (wf64 h.1) (wf64 h.2.1) (wf64 h.2.2)

/-! ### the store in memory -/
/-- A cell of the store: its value's slice (a, cap) and numbers, its text, when it changed, its durability. -/
structure CV where
  a : Option Addr
  cap : Nat
  xs : List Int
  tx : ByteArray
  ch : Int
  du : Int
def CV.val (c : CV) : Value := .agg #[.slice c.a c.xs.length c.cap, .string c.tx, .int .i64 c.ch, .int .i64 c.du]
def CV.zero : CV := ⟨none, 0, [], ⟨#[]⟩, 0, 0⟩
/-- what the cell's slice owes -/
def CV.At (w : World) (c : CV) : Prop := Ints w (.slice c.a c.xs.length c.cap) c.xs ∧ c.xs.length * 8 ≤ 140737488355328
structure St where
  rev : Int
  l0 : Int
  l1 : Int
  l2 : Int
  es : List (QK × CV)
def vals (es : List (QK × CV)) : List (QK × Value) := es.map fun p => (p.1, p.2.val)
theorem aget_vals (es : List (QK × CV)) (k : QK) : aget (vals es) k = (aget es k).map CV.val := by
  induction es with
  | nil => rfl
  | cons p r ih =>
    unfold vals at ih ⊢
    rw [List.map_cons, aget_cons, aget_cons, ih]
    split <;> rfl
theorem ups_vals (es : List (QK × CV)) (k : QK) (c : CV) : ups (vals es) k c.val = vals (ups es k c) := by
  induction es with
  | nil => rfl
  | cons p r ih =>
    unfold vals at ih ⊢
    rw [List.map_cons]
    unfold ups
    simp only
    split
    · rfl
    · rw [ih]; rfl
structure StoreIs (w : World) (b bm : Nat) (S : St) : Prop where
  blk : w.heap[b]? = some (.cells #[.int .i64 S.rev, .int .i64 S.l0, .int .i64 S.l1, .int .i64 S.l2, .map (some bm)] 134 (0, 0))
  map : MapAt Try.prog 27 qk w bm (vals S.es)
  vals : ∀ p ∈ S.es, p.2.At w
theorem CV.At.kept {w w' : World} {c : CV} {S : List Nat} (h : c.At w) (hc : Chg S w w') (hS : ∀ k ∈ S, NotE 3 w k) : c.At w' := ⟨h.1.kept hc hS, h.2⟩
theorem StoreIs.kept {w w' : World} {b bm : Nat} {S : St} {T : List Nat} (h : StoreIs w b bm S) (hc : Chg T w w') (hT : ∀ k ∈ T, NotE 3 w k) (hb : b ∉ T) (hm : bm ∉ T) : StoreIs w' b bm S :=
  ⟨(hc.block b (lt_of_obj h.blk) hb).trans h.blk, h.map.kept hc hm, fun p hp => (h.vals p hp).kept hc hT⟩
theorem StoreIs.same {w w' : World} {b bm : Nat} {S : St} (h : StoreIs w b bm S) (hc : Chg [] w w') : StoreIs w' b bm S := h.kept hc (by simp) (by simp) (by simp)
theorem zero_cell (w : World) : (zeroValue 142).run Try.prog w = .ok CV.zero.val w := by kernel_rfl
theorem CV.zero_at (w : World) : CV.zero.At w := ⟨Or.inl ⟨rfl, rfl⟩, by decide⟩
/-- what the store holds at a key -/
def St.at (S : St) (k : QK) : CV := (aget S.es k).getD CV.zero
theorem StoreIs.at {w : World} {b bm : Nat} {S : St} (h : StoreIs w b bm S) (k : QK) : (S.at k).At w := by
  unfold St.at
  cases hk : aget S.es k with
  | none => exact CV.zero_at w
  | some c => exact h.vals _ (aget_mem hk)
theorem StoreIs.lookup {w : World} {b bm : Nat} {S : St} (h : StoreIs w b bm S) {k : QK} (hk : QKok k) :
    (Instr.lookup 131 (.map (some bm)) (qk k) false).run Try.prog w = .ok (S.at k).val w := by
  rw [h.map.lookup qkeyed qk_inj Try.underlying131 (qkOk hk) (zero_cell w) false, aget_vals]
  unfold St.at
  cases aget S.es k <;> rfl

set_option maxHeartbeats 400000 in
theorem revision_any (b bm : Nat) (S : St) (w : World) (h : StoreIs w b bm S) :
    Calls Try.prog 91 #[.pointer (some ⟨b, 0, none⟩)] w fun e w' => e = .returned (.int .i64 S.rev) ∧ w = w' := by
  have h0 := cell_of_heap h.blk (i := 0) rfl
  go_enter Try.func91, Try.ntmps91
  go_wp2
  go_ret
  exact ⟨rfl, rfl⟩
/-- the last change of a durability -/
def St.last (S : St) (d : Int) : Int := if d = 0 then S.l0 else if d = 1 then S.l1 else S.l2
set_option maxHeartbeats 400000 in
theorem last_any (b bm : Nat) (S : St) (d : Int) (w : World) (h : StoreIs w b bm S) (hd0 : 0 ≤ d) (hd : d < 3) :
    Calls Try.prog 103 #[.pointer (some ⟨b, 0, none⟩), .int .i64 d] w fun e w' => e = .returned (.int .i64 (S.last d)) ∧ w = w' := by
  have h0 : w.cell? ⟨b, 1 + d.toNat, none⟩ = some (.int .i64 (S.last d)) := by
    refine cell_of_heap h.blk ?_
    unfold St.last
    rcases (by omega : d = 0 ∨ d = 1 ∨ d = 2) with rfl | rfl | rfl <;> rfl
  clear h
  go_enter Try.func103, Try.ntmps103
  go_wp2
  go_ret
  exact ⟨rfl, rfl⟩
set_option maxHeartbeats 400000 in
theorem new_any (w : World)  :
    Calls Try.prog 52 #[] w fun e w' => e = .returned (.pointer (some ⟨w.heap.size + 1, 0, none⟩)) ∧ StoreIs w' (w.heap.size + 1) w.heap.size ⟨0, 0, 0, 0, []⟩ ∧ Chg [] w w' := by
  have hmm := @run_makeMap Try.prog
  go_enter Try.func52, Try.ntmps52
  go_wp2
  go_ret
  refine ⟨rfl, ⟨?_, ?_, by simp⟩, ((Chg.refl [] w).alloc _).alloc _⟩
  · rw [show w.heap.size + 1 = (w.alloc (.map #[] 0)).heap.size from by simp, heap_alloc_new]
  · exact (MapAt.made Try.prog 27 qk w).kept ((Chg.refl [] _).alloc _) (by simp)
set_option maxHeartbeats 400000 in
theorem get_any (b bm : Nat) (S : St) (k : QK) (w : World) (h : StoreIs w b bm S) (hk : QKok k) :
    Calls Try.prog 65 #[.pointer (some ⟨b, 0, none⟩), qk k] w fun e w' => ∃ a c, e = .returned (.tuple #[.agg #[.slice a (S.at k).xs.length c, .string (S.at k).tx], .int .i64 (S.at k).ch, .int .i64 (S.at k).du]) ∧
      Ints w' (.slice a (S.at k).xs.length c) (S.at k).xs ∧ (∀ ad, a = some ad → w.heap.size ≤ ad.block) ∧ Chg [] w w' := by
  have hl : ∀ w', Chg [] w w' → (Instr.lookup 131 (.map (some bm)) (qk k) false).run Try.prog w' = .ok (S.at k).val w' := fun w' hc => (h.same hc).lookup hk
  have hv := h.at k
  have h4 := cell_of_heap h.blk (i := 4) rfl
  have hb := World.new_ne w _ h4
  have hb2 := lt_of_obj h.blk
  have hb3 : b < w.heap.size + 1 := by omega
  have hb4 : b < w.heap.size + 2 := by omega
  have hb5 : b < w.heap.size + 1 + 1 := by omega
  have hb6 : b < w.heap.size + 3 := by omega
  obtain ⟨⟨a0, cap0, xs, tx, ch, du⟩, hc⟩ : ∃ c, c = S.at k := ⟨_, rfl⟩
  rw [← hc] at hl hv ⊢
  clear hc
  simp only [CV.val] at hl ⊢
  unfold qk at hl ⊢
  have Hv := Lib.hid hv
  have Hl := Lib.hid hl
  have hl2 := fun o1 o2 => hl _ (((Chg.refl [] w).alloc o1).alloc o2).drew
  have hl3 := fun o1 o2 o3 => hl _ ((((Chg.refl [] w).alloc o1).alloc o2).alloc o3).drew
  clear hv h hl
  go_enter Try.func65, Try.ntmps65
  go_wp2
  go_region
  go_wp2
  go_region_held3 (fun w' => w'.cell? ⟨w.heap.size + 1 + 1, 0, none⟩ = some (.slice a0 xs.length cap0) ∧ w'.cell? ⟨w.heap.size + 1 + 1, 1, none⟩ = some (.string tx) ∧ w'.cell? ⟨w.heap.size + 1 + 1, 2, none⟩ = some (.int .i64 ch) ∧ w'.cell? ⟨w.heap.size + 1 + 1, 3, none⟩ = some (.int .i64 du))
    (first | (go_keep; done) | (refine ⟨?_, ?_, ?_, ?_⟩ <;> (simp [go_sem]; done)) | (refine ⟨?_, ?_, ?_, ?_⟩ <;> (rw [hc1.cell (by simp; try omega) (by simp)]; simp [go_sem]; done)))
    ((go_at_call 85; refine (inputsClone _ _ _ xs (Hv.out.1.same (by repeat (first | exact Chg.refl _ _ | apply Chg.drew | apply Chg.alloc | refine Chg.setCell ?_ (Or.inr (by simp)) _))) Hv.out.2).mono ?_; rintro e w1 ⟨a1, c1, rfl, hi1, hn1, hc1⟩; have q1 := hc1.block (w.heap.size + 1) (by first | (simp; done) | (simp; omega)) (by simp); have r0 : w1.cell? ⟨w.heap.size + 1, 0, none⟩ = some (.slice none 0 0) := (World.cell?_of_block q1).trans (by simp [go_sem]); have r1 : w1.cell? ⟨w.heap.size + 1, 1, none⟩ = some (.string ⟨#[]⟩) := (World.cell?_of_block q1).trans (by simp [go_sem]); have f0 : w1.frozen? ⟨w.heap.size + 1, 0, none⟩ = false := (World.frozen?_of_block q1).trans (by simp [go_sem]); have f1 : w1.frozen? ⟨w.heap.size + 1, 1, none⟩ = false := (World.frozen?_of_block q1).trans (by simp [go_sem])))
  go_wp2
  refine bodyPost_ret (v := .tuple #[.agg #[.slice a1 xs.length c1, .string tx], .int .i64 ch, .int .i64 du]) (by simp [results, Try.results65, go_sem, r0, r1]) rfl ⟨a1, c1, rfl, ?_, fun ad ha => by have := hn1 ad ha; simp at this; omega, ?_⟩
  · have hn := NotE.of_heap (E := 3) (q1.trans ((heap_past _ _ _ (by simp)).trans (heap_at _ _ _ (by simp)))) (by simp)
    exact Sl.setCell (Sl.setCell hi1 hn _) (hn.setCell _ _) _
  · exact (((((((Chg.refl [] w).alloc _).alloc _).alloc _).drew.drew.new hc1).setCell (Or.inr (by simp)) _).setCell (Or.inr (by simp)) _)
end Go.Proofs.Ytdeodcomlakpaaa.Inp
