/- A client: NewClient, Request, Cancel, Receive, Pending of none. -/
import Derived.Test.YtiklgipcgdgkoaaDoorJsL
import Derived.Test.YtiklgipcgdgkoaaDoorJsS
import Derived.Test.YtiklgipcgdgkoaaDoorDel
import Derived.Deep.DeepCutAuto
import Derived.BigQuiet
import Derived.Deep.QuietTactic
namespace Go.Proofs.YtiklgipcgdgkoaaDoor.Jv
open Go.RowKit Go.ChangeMaps Go.MapKept
open Go.Maps (Keyed)
set_option linter.unusedVariables false
set_option linter.unusedSimpArgs false
def In64 (n : Int) : Prop := -9223372036854775808 ≤ n ∧ n ≤ 9223372036854775807
theorem ikeyed : Keyed Tryd.prog 3 := Maps.int_keyed Tryd.underlying3
theorem ikOk {n : Int} (h : In64 n) : KeyOk Tryd.prog 3 (ikc n) := ⟨_, Maps.keyOf_int_mk Tryd.underlying3 (WalkArith.wf_i64 h)⟩
/-- a client in memory: the next ID, what is pending -/
structure Cli (w : World) (cb mb : Nat) (N : Nat) (es : List (Int × Value)) : Prop where
  box : w.heap[cb]? = some (.cells #[.int .i64 (N : Nat), .map (some mb)] 83 (0, 0))
  map : MapAt Tryd.prog 3 ikc w mb es
  ne : cb ≠ mb
  vals : ∀ p ∈ es, ∃ z : Int, p.2 = .int .i64 z
def CF (cb mb : Nat) (g : Nat) : Prop := g = cb ∨ g = mb
theorem Cli.kept {S : Nat → Prop} {w w' : World} {cb mb N : Nat} {es : List (Int × Value)} (h : Cli w cb mb N es) (hc : ChgP S w w') (h1 : ¬ S cb) (h2 : ¬ S mb) : Cli w' cb mb N es := ⟨(hc.block cb (lt_of_obj h.box) h1).trans h.box, h.map.of_block (hc.block mb h.map.lt h2), h.ne, h.vals⟩
theorem Cli.new {w w' : World} {cb mb N : Nat} {es : List (Int × Value)} (h : Cli w cb mb N es) (hc : Chg [] w w') : Cli w' cb mb N es := h.kept (S := fun _ => False) hc.p (fun h => h) (fun h => h)
theorem Cli.get {w : World} {cb mb N : Nat} {es : List (Int × Value)} (h : Cli w cb mb N es) (i : Int) : aget es i = none ∨ ∃ z : Int, aget es i = some (.int .i64 z) := by
  cases e : aget es i with
  | none => exact Or.inl rfl
  | some v =>
    obtain ⟨z, hz⟩ := h.vals _ (aget_mem e)
    exact Or.inr ⟨z, by simp only at hz; rw [hz]⟩
theorem zero_in (w : World) : (zeroValue 3).run Tryd.prog w = .ok (.int .i64 0) w := by kernel_rfl
theorem Cli.look {w : World} {cb mb N : Nat} {es : List (Int × Value)} (h : Cli w cb mb N es) {i : Int} (hi : In64 i) :
    (Instr.lookup 81 (.map (some mb)) (.int .i64 i) true).run Tryd.prog w = .ok (.tuple #[(aget es i).getD (.int .i64 0), .bool (aget es i).isSome]) w := by
  have := h.map.lookup ikeyed ikcInj Tryd.underlying81 (ikOk hi) (zero_in w) true
  exact this
/-- one more, or one that is set anew -/
theorem Cli.store {w : World} {cb mb N : Nat} {es : List (Int × Value)} (h : Cli w cb mb N es) {i : Int} (hi : In64 i) (z : Int) :
    ∃ o, (Instr.mapUpdate 81 (.map (some mb)) (.int .i64 i) (.int .i64 z)).run Tryd.prog w = .ok () (setBlock w mb o) ∧ Cli (setBlock w mb o) cb mb N (ups es i (.int .i64 z)) ∧ ChgP (CF cb mb) w (setBlock w mb o) := by
  obtain ⟨o, hr, hm⟩ := h.map.update ikeyed ikcInj Tryd.underlying81 (ikOk hi) (.int .i64 z)
  have hc : Chg [mb] w (setBlock w mb o) := (Chg.refl _ _).setBlock (Or.inl (by simp)) _
  refine ⟨o, hr, ⟨(hc.block cb (lt_of_obj h.box) (by simpa using h.ne)).trans h.box, hm, h.ne, fun p hp => ?_⟩, hc.toP.mono fun g hg => Or.inr (List.mem_singleton.1 hg)⟩
  rcases mem_ups hp with rfl | hp
  · exact ⟨z, rfl⟩
  · exact h.vals p hp
theorem Cli.drop {w : World} {cb mb N : Nat} {es : List (Int × Value)} (h : Cli w cb mb N es) {i : Int} (hi : In64 i) (ty : TypeId) :
    ∃ o, (Builtin.delete_ #[81, 3] ty #[.map (some mb), .int .i64 i]).run Tryd.prog w = .ok (.tuple #[]) (setBlock w mb o) ∧ Cli (setBlock w mb o) cb mb N (adel es i) ∧ ChgP (CF cb mb) w (setBlock w mb o) := by
  obtain ⟨o, hr, hm⟩ := h.map.delete ikeyed ikcInj Tryd.underlying81 (ikOk hi) ty
  have hc : Chg [mb] w (setBlock w mb o) := (Chg.refl _ _).setBlock (Or.inl (by simp)) _
  exact ⟨o, hr, ⟨(hc.block cb (lt_of_obj h.box) (by simpa using h.ne)).trans h.box, hm, h.ne, fun p hp => h.vals p (mem_adel hp).1⟩, hc.toP.mono fun g hg => Or.inr (List.mem_singleton.1 hg)⟩
theorem step_delete_run {P : Program} {ops : Array Oper} {o : Oper} {a : Act} {w : World} {K : Act → World → Prop} {Q : Exit → Act → World → Prop} {E : Prop} (hgd : o.guard = none) (s x : Operand) (t u : TypeId)
    (ho : o.op = .call { callee := .builtin .delete, args := #[s, x], argTypes := #[t, u] }) (v vx v' : Value) (w' : World) (hs : a.eval s = v) (hx : a.eval x = vx)
    (hr : (Builtin.delete_ #[t, u] o.type #[v, vx]).run P w = .ok v' w') (h : K (a.put o.dst v') w') : if Region.wanted o (yielded ops a.tmps) = true then Oper.wp P o a w K Q else E := by
  have hw : Region.wanted o (yielded ops a.tmps) = true := by simp [Region.wanted, hgd]
  rw [if_pos hw]
  unfold Oper.wp execOp
  simp only [ho, resolve, invoke, builtin, Sem.run_bind, Sem.run_pure, Result.andThen_ok, List.map_toArray, List.map_cons, List.map_nil, hs, hx, hr]
  exact h
set_option maxHeartbeats 4000000 in
theorem newCli_any (w : World) : Calls Tryd.prog 24 #[] w fun e w' => ∃ cb mb, e = .returned (.pointer (some ⟨cb, 0, none⟩)) ∧ Cli w' cb mb 0 [] ∧ Chg [] w w' ∧ w.heap.size ≤ cb ∧ w.heap.size ≤ mb := by
  have hmk : ∀ W : World, (Instr.makeMap 81 none).run Tryd.prog W = .ok (.map (some W.heap.size)) (W.alloc (.map #[] 0)) := fun W => by simp [Instr.makeMap, Result.andThen]
  go_enter Tryd.func24, Tryd.ntmps24
  go_wp2_with fail
  go_ret
  refine ⟨w.heap.size + 1, w.heap.size, rfl, ⟨heap_at _ _ _ (by simp), (MapAt.made _ _ _ w).of_block (heap_past _ _ _ (by simp)), by omega, by simp⟩, ((Chg.refl _ _).alloc _).alloc _, by omega, by omega⟩
theorem Cli.c0 {w : World} {cb mb N : Nat} {es : List (Int × Value)} (h : Cli w cb mb N es) : w.cell? ⟨cb, 0, none⟩ = some (.int .i64 (N : Nat)) := cell_of_heap h.box rfl
theorem Cli.c1 {w : World} {cb mb N : Nat} {es : List (Int × Value)} (h : Cli w cb mb N es) : w.cell? ⟨cb, 1, none⟩ = some (.map (some mb)) := cell_of_heap h.box rfl
/-- what Receive does at an answer that is awaited -/
def CrPost (cb mb N : Nat) (es : List (Int × Value)) (i : Int) (w : World) (e : Ending) (w' : World) : Prop := e = .returned (.int .i64 0) ∧ Cli w' cb mb N (adel es i) ∧ ChgP (CF cb mb) w w'
set_option maxRecDepth 100000 in
set_option maxHeartbeats 8000000 in
theorem cliReceive_any (w : World) (cb mb N : Nat) (es : List (Int × Value)) (k i c : Int) (t : ByteArray) (h : Cli w cb mb N es) (hG : Gd k i c t) (hk : k = 3 ∨ k = 4) (hT : Tb w) (hf : aget es i ≠ none) :
    Calls Tryd.prog 27 #[.pointer (some ⟨cb, 0, none⟩), mV k i c t] w (CrPost cb mb N es i w) := by
  obtain ⟨w1, hw1⟩ : ∃ x, x = w.alloc (.cells #[.int .i64 k, .int .i64 i, .int .i64 c, .string t, .int .i64 0, .int .i64 0, .string ⟨#[]⟩, .slice none 0 0, .slice none 0 0] 27) := ⟨_, rfl⟩
  obtain ⟨bb, hbb⟩ : ∃ x, x = w.heap.size := ⟨_, rfl⟩
  have hc1 : Chg [] w w1 := by rw [hw1]; exact (Chg.refl _ _).alloc _
  have hm1 : w1.heap[bb]? = some (.cells #[.int .i64 k, .int .i64 i, .int .i64 c, .string t, .int .i64 0, .int .i64 0, .string ⟨#[]⟩, .slice none 0 0, .slice none 0 0] 27 (0, 0)) := by rw [hw1, hbb]; exact heap_at _ _ _ rfl
  have hi : In64 i := ⟨by have := hG.1.1; omega, by have := hG.1.2; omega⟩
  have HE := Lib.hid (enc_msg k i c t w1 hG (hT.new hc1))
  have H := Lib.hid h
  have Hi := Lib.hid hi
  have Hc1 := Lib.hid hc1
  have Hm1 := Lib.hid hm1
  have Hg := Lib.hid (h.get i)
  obtain ⟨z, hz⟩ : ∃ z : Int, aget es i = some (.int .i64 z) := (h.get i).elim (fun h => absurd h hf) id
  have Hz := Lib.hid hz
  clear h hG hT hf hc1 hm1 hi hz
  unfold mV at *
  go_enter Tryd.func27, Tryd.ntmps27
  go_upto_region 1 with fail
  rw [← hw1, ← hbb]
  clear hw1 hbb
  obtain ⟨m0, m1, m2, m3, m4, m5, m6, m7, m8⟩ := msg_cells bb Hm1.out (Chg.refl [] w1)
  go_wp2_with fail
  refine HE.out.mono ?_
  rintro e w2 ⟨v, rfl, hv, hc2⟩
  obtain ⟨ev, rfl⟩ := hv.ev'
  unfold Ev.val
  clear hv m0 m1 m2 m3 m4 m5 m6 m7 m8
  obtain ⟨w3, hw3⟩ : ∃ x, x = w2.alloc (.cells #[.int .i64 ev.k, .int .i64 ev.n, .string ev.t, .slice ev.na ev.nl ev.nc, .slice ev.ia ev.il ev.ic] 25) := ⟨_, rfl⟩
  have hc3 : Chg [] w1 w3 := by rw [hw3]; exact hc2.alloc _
  have Hc3 := Lib.hid (Hc1.out.trans hc3)
  obtain ⟨m0, m1, m2, m3, m4, m5, m6, m7, m8⟩ := msg_cells bb Hm1.out hc3
  have lm := lt_of_cell m0
  clear hc2 hc3
  go_upto_region 2 with fail
  rw [← hw3]
  clear hw3
  have H3 := Lib.hid (H.out.new Hc3.out)
  have c1 := H3.out.c1
  have lc := lt_of_cell c1
  have hlk : ∀ W : World, Chg [] w3 W → (Instr.lookup 81 (.map (some mb)) (.int .i64 i) true).run Tryd.prog W = .ok (.tuple #[.int .i64 z, .bool true]) W := fun W hc => by
    have := (H3.out.new hc).look Hi.out
    rw [Hz.out] at this
    exact this
  have hl1 := hlk w3 (Chg.refl _ _)
  have hl2 := hlk w3.drew ((Chg.refl _ _).drew)
  clear hlk
  obtain ⟨o, hr, hC, hF⟩ := (H3.out.new ((Chg.refl _ _).drew.drew)).drop Hi.out 81
  have HC := Lib.hid (And.intro hC hF)
  have Hr := Lib.hid hr
  clear hr hC hF
  rcases hk with rfl | rfl
  all_goals
    go_upto_region 6 with fail
    go_region
    go_upto_region 9 with fail
    go_region_law (refine step_delete_run rfl _ _ _ _ rfl _ _ _ _ rfl rfl Hr.out ?_)
    all_goals
      go_wp2_with fail
      go_ret
      exact ⟨rfl, HC.out.1, ((Hc3.out.p (S := CF cb mb)).trans (((Chg.refl [] w3).drew.drew).p)).trans HC.out.2⟩
end Go.Proofs.YtiklgipcgdgkoaaDoor.Jv
