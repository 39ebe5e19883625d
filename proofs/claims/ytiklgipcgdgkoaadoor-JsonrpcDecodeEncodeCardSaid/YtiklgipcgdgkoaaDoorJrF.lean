/- Protocol messages: a member of an object. -/
import Derived.Test.YtiklgipcgdgkoaaDoorJrE
namespace Go.Proofs.YtiklgipcgdgkoaaDoor.Jv
open Go.RowKit Go.ChangeMaps Go.MapKept
set_option linter.unusedVariables false
set_option linter.unusedSimpArgs false
/-- the member with a name, or null -/
def lk (v : J) (s : ByteArray) : J := (v.findG s).getD J.zero
theorem Bd.zero : Bd J.zero := .mk (by simp) (by simp) (by simp)
theorem findG_mem {j e : J} {s : ByteArray} (h : j.findG s = some e) : e ∈ j.elems := by
  unfold J.findG at h
  by_cases hk : j.kind ≠ 5
  · rw [if_pos hk] at h; cases h
  · rw [if_neg hk] at h
    by_cases hm : j.names.findIdx (· = s) < j.names.length
    · rw [if_pos hm] at h; exact List.mem_of_getElem? h
    · rw [if_neg hm] at h; cases h
theorem Bd.lk {v : J} (h : Bd v) (s : ByteArray) : Bd (lk v s) := by
  cases hf : v.findG s with
  | none => unfold Jv.lk; rw [hf]; exact Bd.zero
  | some e =>
    unfold Jv.lk
    rw [hf]
    have hm := findG_mem hf
    obtain ⟨k, n, t, ns, es⟩ := v
    exact h.elem hm
def MePost (f : Nat) (j : J) (w : World) (e : Ending) (w' : World) : Prop := ∃ ev : Ev, e = .returned ev.val ∧ JN w.heap.size f w' ev.val j ∧ Chg [] w w'
set_option maxRecDepth 100000 in
set_option maxHeartbeats 4000000 in
theorem member_any (p : Nat → Prop) (f : Nat) (w : World) (j : J) (v : Value) (s : ByteArray) (hj : JV p f w v j) (hs : Bd j) :
    Calls Tryd.prog 55 #[v, .string s] w (MePost f (lk j s) w) := by
  obtain ⟨ej, rfl⟩ := hj.ev'
  unfold Ev.val at *
  obtain ⟨w1, hw1⟩ : ∃ x, x = (w.alloc (.cells #[.int .i64 ej.k, .int .i64 ej.n, .string ej.t, .slice ej.na ej.nl ej.nc, .slice ej.ia ej.il ej.ic] 25)).alloc (.cells #[.int .i64 0, .int .i64 0, .string ⟨#[]⟩, .slice none 0 0, .slice none 0 0] 25) := ⟨_, rfl⟩
  obtain ⟨mb, hmb⟩ : ∃ x, x = w.heap.size := ⟨_, rfl⟩
  have hc1 : Chg [] w w1 := by rw [hw1]; exact ((Chg.refl _ _).alloc _).alloc _
  have hm1 : w1.heap[mb]? = some (.cells #[.int .i64 ej.k, .int .i64 ej.n, .string ej.t, .slice ej.na ej.nl ej.nc, .slice ej.ia ej.il ej.ic] 25 (0, 0)) := by
    rw [hw1, hmb, heap_past _ _ _ (by simp)]
    exact heap_at _ _ _ rfl
  have hr1 : w1.heap[mb + 1]? = some (.cells #[.int .i64 0, .int .i64 0, .string ⟨#[]⟩, .slice none 0 0, .slice none 0 0] 25 (0, 0)) := by
    rw [hw1, hmb]
    exact heap_at _ _ _ (by simp)
  have Hmb := Lib.hid hmb
  have Hc1 := Lib.hid hc1
  have Hr1 := Lib.hid hr1
  have Hlk := Lib.hid (LookupG_any p f w1 j _ s (hj.chg hc1) hs)
  obtain ⟨b0, b1, b2, b3, b4⟩ := box_kept mb hm1 (Chg.refl [] w1)
  clear hj hs hc1 hm1 hr1
  go_enter Tryd.func55, Tryd.ntmps55
  go_upto_region 1 with fail
  rw [← hw1, ← hmb]
  clear hw1 hmb
  go_wp2_with fail
  refine Hlk.out.mono ?_
  rintro e w2 ⟨v2, rfl, hv2, hc2⟩
  obtain ⟨ev, rfl⟩ := hv2.ev'
  unfold Ev.val at *
  obtain ⟨w3, hw3⟩ : ∃ x, x = w2.alloc (.cells #[.int .i64 ev.k, .int .i64 ev.n, .string ev.t, .slice ev.na ev.nl ev.nc, .slice ev.ia ev.il ev.ic] 25) := ⟨_, rfl⟩
  obtain ⟨vb, hvb⟩ : ∃ x, x = w2.heap.size := ⟨_, rfl⟩
  have hc23 : Chg [] w2 w3 := by rw [hw3]; exact (Chg.refl _ _).alloc _
  have hb3 : w3.heap[vb]? = some (.cells #[.int .i64 ev.k, .int .i64 ev.n, .string ev.t, .slice ev.na ev.nl ev.nc, .slice ev.ia ev.il ev.ic] 25 (0, 0)) := by rw [hw3, hvb]; exact heap_at _ _ _ rfl
  have hc3 := hc2.trans hc23
  have Hv3 := Lib.hid (hv2.same hc23)
  have Hc3 := Lib.hid hc3
  have hr3 := (hc3.block (mb + 1) (lt_of_obj Hr1.out) (by simp)).trans Hr1.out
  obtain ⟨q0, q1, q2, q3, q4⟩ := box_kept vb hb3 (Chg.refl [] w3)
  obtain ⟨r0, r1, r2, r3, r4⟩ := box_kept (mb + 1) hr3 (Chg.refl [] w3)
  have fr := fun i => frozen_of_heap (i := i) hr3
  have lr := lt_of_cell r0
  clear hv2 hc2 hc23 hb3 hc3 hr3 b0 b1 b2 b3 b4
  go_upto_region 2 with fail
  rw [← hw3, ← hvb]
  clear hw3 hvb
  go_wp2_with fail
  refine bodyPost_ret (v := .agg #[.int .i64 ev.k, .int .i64 ev.n, .string ev.t, .slice ev.na ev.nl ev.nc, .slice ev.ia ev.il ev.ic]) (by simp [results, Tryd.results55, go_sem, r0, r1, r2, r3, r4]) rfl ?_
  have hcs := st5_chg w3 (mb + 1) 0 ev
  have hmbw := Hmb.out
  have hlt := lt_of_obj Hr1.out
  have hv := (Hv3.out.kept hcs.toP fun g hg hm => by have := List.mem_singleton.1 hm; have := hg.1; omega).imp (q := fun g => w.heap.size ≤ g ∧ g < (st5 w3 (mb + 1) 0 ev).heap.size) fun g hg => ⟨by have := hg.1; have := Hc1.out.size; omega, Nat.lt_of_lt_of_le hg.2 hcs.size⟩
  have hend : MePost f (lk j s) w (.returned ev.val) (st5 w3 (mb + 1) 0 ev) := ⟨ev, rfl, hv, (Hc1.out.trans Hc3.out).comp hcs fun g hg => Or.inr (by have := List.mem_singleton.1 hg; omega)⟩
  exact hend
end Go.Proofs.YtiklgipcgdgkoaaDoor.Jv
