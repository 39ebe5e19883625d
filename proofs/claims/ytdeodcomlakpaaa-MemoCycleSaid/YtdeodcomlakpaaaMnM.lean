/- GetUntil: its deferred closure. -/
import Derived.Test.YtdeodcomlakpaaaMnK
import Derived.Tactics2
import Derived.Defers
import Derived.Recover
import Derived.Laws.EntriesVeiled
namespace Go.Proofs.Ytdeodcomlakpaaa
open Go.RowKit Go.ChangeMaps Go.MapKept
set_option linter.unusedVariables false
set_option linter.unusedSimpArgs false
section
variable {b : Nat}
/-- the head's own fields are set -/
theorem DmAt.setHead {w w' : World} {d : Dm} {stop' : Value} {cnt' clk' : Int} (h : DmAt w b d) (hc : ChgP (fun g => g = b) w w') (hb : w'.heap[b]? = some (.cells #[d.comp, .pointer (some ⟨d.bs, 0, none⟩), .map (some d.br), .map (some d.ba), stop', .int .i64 cnt', .int .i64 clk'] 88 (0, 0))) :
    DmAt w' b { d with stop := stop', cnt := cnt', clk := clk' } := by
  obtain ⟨p1, p2, p3, p4, p5, p6, p7, p8, p9, p10, p11, _⟩ := Dm.parts h.nodup
  have hbm : b ∈ d.muts b := by simp [Dm.muts]
  have himm : ∀ g ∈ d.imms, w'.heap[g]? = w.heap[g]? := fun g hg => hc.block g (h.bound g hg) fun e => h.apart g hg (e ▸ hbm)
  have blk : ∀ g, g < w.heap.size → g ≠ b → w'.heap[g]? = w.heap[g]? := fun g hg hn => hc.block g hg hn
  exact ⟨hb, ⟨(blk _ (lt_of_obj h.store.blk) (Ne.symm p1)).trans h.store.blk, h.store.map.of_block (blk _ h.store.map.lt (Ne.symm p2)), fun p hp => ⟨intsKept' (h.store.vals p hp).1 fun g hg => himm g (Dm.imm_store (d := d) hp hg), (h.store.vals p hp).2⟩⟩, h.text, h.res.of_block (blk _ h.res.lt (Ne.symm p3)), h.act.of_block (blk _ h.act.lt (Ne.symm p4)), fun p hp => (h.each p hp).kept (blk _ (h.lt _ (Dm.mut_mem (b := b) hp)) (p11 p hp).1) fun g hg => himm g (Dm.imm_mem (d := d) hp hg), h.nodup, h.apart, fun g hg => Nat.lt_of_lt_of_le (h.bound g hg) hc.size⟩
def Dm.idle (d : Dm) : Dm := { d with stop := .nilFunc, act := [] }
/-- what the closure leaves -/
structure Caught (b vc ec : Nat) (w w' : World) (d : Dm) : Prop where
  mem : DmAt w' b d.idle
  chg : ChgP (fun g => g ∈ d.muts b ∨ g = vc ∨ g = ec) w w'
theorem iface_neq (w : World) (t : TypeId) (v : Value) : (binOp .neq 20 (.iface t v) .nilIface).run Try.prog w = .ok (.bool true) w := by
  go_simp
theorem assert_int (w : World) (v : Value) : (Instr.typeAssert (.iface 110 v) 20 110 true).run Try.prog w = .ok (.tuple #[v, .bool true]) w := by
  simp [Instr.typeAssert, run_underlying Try.underlying110]
theorem catch_start (w : World) (d : Dm) (bx vc ec : Nat) (h : DmAt w b d) :
    ∃ w1 o, w1 = w.setCell ⟨b, 4, none⟩ .nilFunc ∧ (Builtin.clear_ #[86] 0 #[.map (some d.ba)]).run Try.prog w1 = .ok (.tuple #[]) (setBlock w1 d.ba o) ∧ DmAt (setBlock w1 d.ba o) b d.idle ∧ ChgP (fun g => g ∈ d.muts b) w (setBlock w1 d.ba o) ∧ w1.cell? ⟨b, 3, none⟩ = some (.map (some d.ba)) := by
  have hc : ChgP (fun g => g = b) w (w.setCell ⟨b, 4, none⟩ .nilFunc) := (ChgP.refl (fun g => g = b) w).setCell (p := ⟨b, 4, none⟩) (Or.inl rfl) _
  have h1 := h.setHead (stop' := .nilFunc) (cnt' := d.cnt) (clk' := d.clk) hc ((heap_setCell_same h.blk _).trans rfl)
  obtain ⟨o, hrun, hm⟩ := h1.act.clear Try.underlying86 0
  exact ⟨_, o, rfl, hrun, h1.setAct (L := []) hm, (hc.mono fun g hg => by subst hg; simp [Dm.muts]).setBlock (Or.inl (by simp [Dm.muts])) _, cell_of_heap h1.blk rfl⟩
set_option maxRecDepth 100000 in
set_option maxHeartbeats 2000000 in
theorem catch_panic (w : World) (d : Dm) (bx vc ec : Nat) (x : Int) (h : DmAt w b d) (hb : w.heap[bx]? = some (.cells #[.pointer (some ⟨b, 0, none⟩)] 24 (0, 0))) (hbm : bx ∉ d.muts b) (hv : w.heap[vc]? = some (.cells #[.slice none 0 0, .string ⟨#[]⟩] 31 (0, 0))) (hvm : vc ∉ d.muts b) (he : w.heap[ec]? = some (.cells #[.int .i64 0] 34 (0, 0))) (hem : ec ∉ d.muts b) (himm : vc ∉ d.imms ∧ ec ∉ d.imms) :
    CallsD Try.prog 66 #[.pointer (some ⟨bx, 0, none⟩), .pointer (some ⟨vc, 0, none⟩), .pointer (some ⟨ec, 0, none⟩)] (.panicking (chI x)) w fun e u' w' =>
      e = .returned (.tuple #[]) ∧ u' = .panicking [{ v := .iface 110 (.agg #[.int .i64 x]), recovered := true }] ∧ Caught b vc ec w w' d ∧ w'.heap[vc]? = some (.cells #[.slice none 0 0, .string ⟨#[]⟩] 31 (0, 0)) ∧ w'.heap[ec]? = some (.cells #[.int .i64 x] 34 (0, 0)) := by
  have q0 : w.cell? ⟨bx, 0, none⟩ = some (.pointer (some ⟨b, 0, none⟩)) := cell_of_heap hb rfl
  have q4 : w.cell? ⟨b, 4, none⟩ = some d.stop := cell_of_heap h.blk rfl
  have f4 := frozen_of_heap h.blk (i := 4)
  obtain ⟨w1, o, hw1, hclr, hm, hch, q3⟩ := catch_start w d bx vc ec h
  have hbb : bx ≠ b := fun e => hbm (by subst e; simp [Dm.muts])
  have q0' : w1.cell? ⟨bx, 0, none⟩ = some (.pointer (some ⟨b, 0, none⟩)) := by rw [hw1]; exact cell_of_heap ((heap_setCell_ne _ _ _ _ hbb).trans hb) rfl
  have hv2 := (hch.block vc (lt_of_obj hv) hvm).trans hv
  have he2 := (hch.block ec (lt_of_obj he) hem).trans he
  have v0 := cell_of_heap hv2 (i := 0) rfl
  have v1 := cell_of_heap hv2 (i := 1) rfl
  have fv0 := frozen_of_heap hv2 (i := 0)
  have fv1 := frozen_of_heap hv2 (i := 1)
  have ev := cell_of_heap he2 (i := 0) rfl
  have fe := frozen_of_heap he2 (i := 0)
  have Hm := Lib.hid hm
  have Hch := Lib.hid hch
  have Hv2 := Lib.hid hv2
  have He2 := Lib.hid he2
  have Hvm := Lib.hid hvm
  have Hem := Lib.hid hem
  clear hm hch hv2 he2 h hvm hem hv he hbm
  have hta := assert_int
  refine callsD_of_wpS Try.func66 rfl fun c₀ cs hu => ?_
  apply wpS_seq
  apply wpS_region
  simp [wpOpsS, go_sem, Try.ntmps66, Exit.thenS, q0, q4, f4]
  rw [← hw1]
  clear q0 q4 f4 hw1
  apply wpS_seq
  apply wpS_region
  simp [wpOpsS, go_sem, Exit.thenS, q0', q3, hclr]
  clear q0' q3 hclr
  obtain ⟨w2, hw2⟩ : ∃ x, x = setBlock w1 d.ba o := ⟨_, rfl⟩
  rw [← hw2] at Hm Hch Hv2 He2 v0 v1 fv0 fv1 ev fe ⊢
  clear hw2
  have nv := World.new_ne w2 _ v0
  have ne := World.new_ne w2 _ ev
  have lv : vc < w2.heap.size := lt_of_cell v0
  have le : ec < w2.heap.size := lt_of_cell ev
  have hve : vc ≠ ec := fun e => absurd (Hv2.out.symm.trans (e ▸ He2.out)) (by simp)
  have hve' : ec ≠ vc := Ne.symm hve
  apply wpS_seq
  apply wpS_region
  simp [wpOpsS, go_sem, Exit.thenS, recoverD, hu, chI]
  refine wpS_of_wp ?_
  simp only [Array.replicate, List.replicate, List.setIfInBounds_toArray, List.set_cons_zero, List.set_cons_succ, List.append_toArray, List.cons_append, List.nil_append]
  go_wp2_with fail
  go_region
  show bodyPostS Try.prog Try.f66 c₀ cs _ _ _ _ _
  refine ⟨rfl, _, rfl, .tuple #[], results_none rfl _ _ _, rfl, rfl, ⟨?_, ?_⟩, ?_, ?_⟩
  · refine Hm.out.kept (S := fun g => g = vc ∨ g = ec) (((((ChgP.refl _ _).setCell (p := ⟨vc, 0, none⟩) (Or.inl (Or.inl rfl)) _).setCell (p := ⟨vc, 1, none⟩) (Or.inl (Or.inl rfl)) _).setCell (p := ⟨ec, 0, none⟩) (Or.inl (Or.inr rfl)) _).alloc _).drew ?_ ?_
    · rintro g hg (rfl | rfl)
      · exact Hvm.out hg
      · exact Hem.out hg
    · rintro g hg (rfl | rfl)
      · exact himm.1 hg
      · exact himm.2 hg
  · exact (((((Hch.out.mono (T := fun g => g ∈ d.muts b ∨ g = vc ∨ g = ec) fun g hg => Or.inl hg).setCell (p := ⟨vc, 0, none⟩) (Or.inl (Or.inr (Or.inl rfl))) _).setCell (p := ⟨vc, 1, none⟩) (Or.inl (Or.inr (Or.inl rfl))) _).setCell (p := ⟨ec, 0, none⟩) (Or.inl (Or.inr (Or.inr rfl))) _).alloc _).drew
  · refine (heap_past _ _ _ (by simp [World.setCell]; omega)).trans ((heap_setCell_ne _ _ _ _ hve).trans ?_)
    exact (heap_setCell_same (heap_setCell_same Hv2.out _) _).trans rfl
  · refine (heap_past _ _ _ (by simp [World.setCell]; omega)).trans ?_
    exact (heap_setCell_same ((heap_setCell_ne _ _ _ _ hve').trans ((heap_setCell_ne _ _ _ _ hve').trans He2.out)) _).trans rfl
set_option maxRecDepth 100000 in
set_option maxHeartbeats 2000000 in
theorem catch_idle (w : World) (d : Dm) (bx vc ec : Nat) (h : DmAt w b d) (hb : w.heap[bx]? = some (.cells #[.pointer (some ⟨b, 0, none⟩)] 24 (0, 0))) (hbm : bx ∉ d.muts b) :
    CallsD Try.prog 66 #[.pointer (some ⟨bx, 0, none⟩), .pointer (some ⟨vc, 0, none⟩), .pointer (some ⟨ec, 0, none⟩)] .returning w fun e u' w' =>
      e = .returned (.tuple #[]) ∧ u' = .returning ∧ DmAt w' b d.idle ∧ ChgP (fun g => g ∈ d.muts b) w w' := by
  have q0 : w.cell? ⟨bx, 0, none⟩ = some (.pointer (some ⟨b, 0, none⟩)) := cell_of_heap hb rfl
  have q4 : w.cell? ⟨b, 4, none⟩ = some d.stop := cell_of_heap h.blk rfl
  have f4 := frozen_of_heap h.blk (i := 4)
  obtain ⟨w1, o, hw1, hclr, hm, hch, q3⟩ := catch_start w d bx vc ec h
  have hbb : bx ≠ b := fun e => hbm (by subst e; simp [Dm.muts])
  have q0' : w1.cell? ⟨bx, 0, none⟩ = some (.pointer (some ⟨b, 0, none⟩)) := by rw [hw1]; exact cell_of_heap ((heap_setCell_ne _ _ _ _ hbb).trans hb) rfl
  have Hm := Lib.hid hm
  have Hch := Lib.hid hch
  clear hm hch h hbm
  refine callsD_of_wpS Try.func66 rfl fun c₀ cs hu => ?_
  apply wpS_seq
  apply wpS_region
  simp [wpOpsS, go_sem, Try.ntmps66, Exit.thenS, q0, q4, f4]
  rw [← hw1]
  clear q0 q4 f4 hw1
  apply wpS_seq
  apply wpS_region
  simp [wpOpsS, go_sem, Exit.thenS, q0', q3, hclr]
  clear q0' q3 hclr
  apply wpS_seq
  apply wpS_region
  simp [wpOpsS, go_sem, Exit.thenS, recoverD, hu]
  refine wpS_of_wp ?_
  simp only [Array.replicate, List.replicate, List.setIfInBounds_toArray, List.set_cons_zero, List.set_cons_succ, List.append_toArray, List.cons_append, List.nil_append]
  go_wp2_with fail
  show bodyPostS Try.prog Try.f66 c₀ cs _ _ _ _ _
  refine ⟨rfl, .returning, by rw [← hu], .tuple #[], results_none rfl _ _ _, rfl, rfl, Hm.out, Hch.out⟩
end
end Go.Proofs.Ytdeodcomlakpaaa
