/- Discard, of a history without results. -/
import Derived.Test.YtggiddhhbilcjaaSnN
namespace Go.Proofs.Ytggiddhhbilcjaa.Sn
open Go.RowKit Go.ChangeMaps Go.MapKept Go.MuLone
set_option linter.unusedVariables false
set_option linter.unusedSimpArgs false
/-- what Discard brings, when nothing has been evaluated -/
def DiscPost (d : Hm) (rev : Int) (w : World) (e : Ending) (w' : World) : Prop :=
  e = .returned (.int .i64 (max d.old (min rev d.lat) - d.old)) ∧ AfterH w w' d { d with old := max d.old (min rev d.lat) }
set_option maxRecDepth 100000 in
set_option maxHeartbeats 8000000 in
theorem discard_any (w : World) (d : Hm) (rev : Int) (h : HmAt w d) (hmu : d.mu = 0) (hRL : d.RL = []) (hold : 0 ≤ d.old ∧ d.old ≤ 1000000) (hlat : 0 ≤ d.lat ∧ d.lat ≤ 1000000) (hrev : 0 ≤ rev ∧ rev ≤ 1000000) :
    Calls Try.prog 20 #[.pointer (some ⟨d.b, 0, none⟩), .int .i64 rev] w (DiscPost d rev w) := by
  obtain ⟨wa, hwa⟩ : ∃ x, x = w.alloc (.cells #[.pointer (some ⟨d.b, 0, none⟩)] 28) := ⟨_, rfl⟩
  obtain ⟨hb, hhb⟩ : ∃ n, n = w.heap.size := ⟨_, rfl⟩
  have hca : Chg [] w wa := by rw [hwa]; exact (Chg.refl _ _).alloc _
  have hbx : wa.heap[hb]? = some (.cells #[.pointer (some ⟨d.b, 0, none⟩)] 28 (0, 0)) := by rw [hwa, hhb]; exact heap_at _ _ _ rfl
  have hna : ¬ d.M hb := fun hm => by have := h.ltM hm; omega
  have ha := h.new hca
  have q0 : wa.cell? ⟨d.b, 0, none⟩ = some (.int .i32 0) := by have := cell_of_heap ha.box (i := 0) rfl; rw [this]; simp [Hm.head, hmu]
  have f0 := frozen_of_heap ha.box (i := 0)
  have hl := lock_after ha hmu
  obtain ⟨wl, hwl⟩ : ∃ x, x = wa.setCell ⟨d.b, 0, none⟩ (.int .i32 1) := ⟨_, rfl⟩
  have hlock : Calls Try.prog 31 #[.pointer (some ⟨d.b, 0, none⟩)] wa fun e w' => e = .returned (.tuple #[]) ∧ w' = wl := (lock_free Try.muLib ⟨d.b, 0, none⟩ _ q0 f0).mono fun e w' h => ⟨h.1, h.2.trans hwl.symm⟩
  rw [← hwl] at hl
  have hlb := (hl.other (lt_of_obj hbx) hna)
  have hbl := hlb.1.trans hbx
  have c0a : wa.cell? ⟨hb, 0, none⟩ = some (.pointer (some ⟨d.b, 0, none⟩)) := cell_of_heap hbx rfl
  have c0 : wl.cell? ⟨hb, 0, none⟩ = some (.pointer (some ⟨d.b, 0, none⟩)) := cell_of_heap hbl rfl
  have q5 : wl.cell? ⟨d.b, 5, none⟩ = some (.int .i64 d.lat) := cell_of_heap hl.mem.box rfl
  have q6 : wl.cell? ⟨d.b, 6, none⟩ = some (.int .i64 d.old) := cell_of_heap hl.mem.box rfl
  have f6 := frozen_of_heap hl.mem.box (i := 6)
  have Hl := Lib.hid ((AfterH.new h hca).trans hl)
  have Hlock := Lib.hid hlock
  have Hbl := Lib.hid (And.intro hbl hna)
  clear h ha hl hwl hlock q0 f0 hlb hca hbl hna hbx
  go_enter_defers Try.func20, Try.ntmps20
  go_upto_region 1 with fail
  rw [← hwa, ← hhb]
  clear hwa hhb
  go_wp2_with (go_at_call 31; refine Hlock.out.mono ?_; rintro e w1 ⟨rfl, rfl⟩)
  refine wp_region_readsQ 12 (by kernel_rfl) (by kernel_rfl) ?_
  intro wd hwd
  simp only [List.take_succ_cons, List.take_zero, List.drop_succ_cons, List.drop_zero]
  have hcd : Chg [] w1 wd := by rw [hwd]; exact (Chg.refl [] w1).drew
  have c0 := (hcd.cell (lt_of_cell c0) (by simp)).trans c0
  have f6 := (hcd.frozen (p := ⟨d.b, 6, none⟩) (lt_of_cell q6) (by simp)).trans f6
  have q5 := (hcd.cell (lt_of_cell q5) (by simp)).trans q5
  have q6 := (hcd.cell (lt_of_cell q6) (by simp)).trans q6
  have Hld := Lib.hid (Hl.out.thenNew hcd)
  have Hbd := Lib.hid (And.intro ((hcd.block _ (lt_of_obj Hbl.out.1) (by simp)).trans Hbl.out.1) Hbl.out.2)
  clear hwd hcd c0a
  repeat go_big_quiet_step (fail)
  refine wpQuiet_nil ?_
  go_upto_region 5 with fail
  obtain ⟨o', ho'⟩ : ∃ x, x = max d.old (min rev d.lat) := ⟨_, rfl⟩
  have ho2 : 0 ≤ o' ∧ o' ≤ 1000000 := by omega
  have hst : AfterH wd (wd.setCell ⟨d.b, 6, none⟩ (.int .i64 o')) { d with mu := 1 } { d with mu := 1, old := o' } := AfterH.heads (d := { d with mu := 1 }) (d' := { d with mu := 1, old := o' }) Hld.out.mem rfl rfl rfl rfl rfl rfl (i := 6) (v := .int .i64 o') (by simp [Hm.head])
  rw [← ho']
  obtain ⟨wf, hwf⟩ : ∃ x, x = wd.setCell ⟨d.b, 6, none⟩ (.int .i64 o') := ⟨_, rfl⟩
  rw [← hwf] at hst ⊢
  have hbf : wf.heap[hb]? = wd.heap[hb]? := hst.chg.block _ (lt_of_obj Hbd.out.1) Hbd.out.2
  have Hf := Lib.hid (Hld.out.trans hst)
  have Hbf := Lib.hid (hbf.trans Hbd.out.1)
  have Ho := Lib.hid ho'
  have Hh := Lib.hid hold
  clear hbf hst hwf ho' c0 q5 q6 f6
  have c0 : wf.cell? ⟨hb, 0, none⟩ = some (.pointer (some ⟨d.b, 0, none⟩)) := cell_of_heap Hbf.out rfl
  have m4 : wf.cell? ⟨d.b, 4, none⟩ = some (.map (some d.br)) := cell_of_heap Hf.out.mem.box rfl
  have q6 : wf.cell? ⟨d.b, 6, none⟩ = some (.int .i64 o') := cell_of_heap Hf.out.mem.box rfl
  have hmr := Hf.out.mem.R.mp
  obtain ⟨it, hrun, hra⟩ := hmr.range Try.underlying78
  have Hra := Lib.hid hra
  clear hra hmr hold
  go_wp2_with fail
  go_loopw [38] (fun _ wr => Hid (Chg [] wf wr) ∧ Hid (RangeAt Try.prog 43 Inp.qk wr d.br wf.heap.size (gE d.RL) (gE d.RL))) (fun _ wr => 0)
  case atStart =>
    exact ⟨Lib.hid ((Chg.refl _ _).alloc _), Hra⟩
  case round =>
    obtain ⟨Hc, hrg⟩ := hrel
    rcases hrg.out.next 0 with ⟨hnil, hrun⟩ | ⟨x, v, rest', w', hp, hrun, hrg', hcw, hsz, hcell, hfroz, hen⟩
    · have c0 := (Hc.out.cell (lt_of_cell c0) (by simp)).trans c0
      have q6 := (Hc.out.cell (lt_of_cell q6) (by simp)).trans q6
      have q0l : wr.cell? ⟨d.b, 0, none⟩ = some (.int .i32 1) := cell_of_heap (Hf.out.thenNew Hc.out).mem.box rfl
      have f0l := frozen_of_heap (Hf.out.thenNew Hc.out).mem.box (i := 0)
      go_wp2_with fail
      refine leaves_cons (f := 32) (args := #[.pointer (some ⟨d.b, 0, none⟩)]) (by simp) (by simp [go_sem]) ?_
      refine (unlock_deferred Try.muLib ⟨d.b, 0, none⟩ .returning _ q0l f0l).mono ?_
      rintro e u' w'' ⟨rfl, rfl, rfl⟩
      refine ⟨_, results_tmp rfl _ _ _, ?_⟩
      have hun := unlock_after (d := { d with old := o' }) (Hf.out.thenNew Hc.out).mem hmu
      unfold DiscPost
      rw [← Ho.out]
      have hh := Hh.out
      exact ⟨by simp [Go.IntWalk.wrap64_in (o' - d.old) (by omega)], (Hf.out.thenNew Hc.out).trans hun⟩
    · exfalso
      have := hp.length_eq
      rw [hRL] at this
      simp [gE] at this
end Go.Proofs.Ytggiddhhbilcjaa.Sn
