/- A server: what a write does to it; reject, start, cancel. -/
import Derived.Test.YtiklgipcgdgkoaaDoorJsH
namespace Go.Proofs.YtiklgipcgdgkoaaDoor.Jv
open Go.RowKit Go.ChangeMaps Go.MapKept
set_option linter.unusedVariables false
set_option linter.unusedSimpArgs false
theorem infoJb : (Tryd.prog.info? 80).map (fun i => (i.zero, i.size, i.bytes)) = some (some (.agg #[.int .i64 0, .bool false, .bool false]), 3, 16) := by kernel_rfl
theorem infoQm : (Tryd.prog.info? 27).map (fun i => (i.zero, i.size, i.bytes)) = some (some (.agg #[.int .i64 0, .int .i64 0, .int .i64 0, .string ⟨#[]⟩, .int .i64 0, .int .i64 0, .string ⟨#[]⟩, .slice none 0 0, .slice none 0 0]), 9, 120) := by kernel_rfl
theorem jc_one (js : List Jb) : ∀ u ∈ js.flatMap jc, u.oneCell' = true := by
  intro u hu
  obtain ⟨j, _, hj⟩ := List.mem_flatMap.1 hu
  simp only [jc, List.mem_cons, List.not_mem_nil, or_false] at hj
  rcases hj with rfl | rfl | rfl <;> rfl
theorem qc_one (qs : List Qm) : ∀ u ∈ qs.flatMap qc, u.oneCell' = true := by
  intro u hu
  obtain ⟨j, _, hj⟩ := List.mem_flatMap.1 hu
  simp only [qc, List.mem_cons, List.not_mem_nil, or_false] at hj
  rcases hj with rfl | rfl | rfl | rfl | rfl | rfl | rfl | rfl | rfl <;> rfl
def SvPost (base : Bs) (sb : Nat) (js : List Jb) (qs : List Qm) (w w' : World) : Prop := (∃ ja jn qa qn, Srv w' base sb ja js.length jn qa qs.length qn js qs) ∧ ChgP (SF base sb w) w w'
section
variable {w : World} {base : Bs} {sb jl jn ql qn : Nat} {ja qa : Option Addr} {js : List Jb} {qs : List Qm}
theorem Srv.jq (h : Srv w base sb ja jl jn qa ql qn js qs) {g : Nat} (hg : (Value.slice ja jl jn).ownBlock = some g) : SF base sb w g := by
  obtain ⟨cs, fr, hb⟩ := own_type h.jobs hg
  exact Or.inr ⟨(ownsRow_ge h.jobs hg).1, ⟨cs, _, fr, hb, Or.inl rfl⟩, h.xj g hg⟩
theorem Srv.qq (h : Srv w base sb ja jl jn qa ql qn js qs) {g : Nat} (hg : (Value.slice qa ql qn).ownBlock = some g) : SF base sb w g := by
  obtain ⟨cs, fr, hb⟩ := own_type h.queue hg
  exact Or.inr ⟨(ownsRow_ge h.queue hg).1, ⟨cs, _, fr, hb, Or.inr rfl⟩, h.xq g hg⟩
theorem Srv.ne (h : Srv w base sb ja jl jn qa ql qn js qs) {g g' : Nat} (hg : (Value.slice ja jl jn).ownBlock = some g) (hg' : (Value.slice qa ql qn).ownBlock = some g') : g ≠ g' := by
  rintro rfl
  obtain ⟨cs, fr, hb⟩ := own_type h.jobs hg
  obtain ⟨cs', fr', hb'⟩ := own_type h.queue hg'
  rw [hb] at hb'
  simp only [Option.some.injEq, Obj.cells.injEq] at hb'
  exact absurd hb'.2.1 (by decide)
/-- one message more -/
theorem Srv.pushQ (h : Srv w base sb ja jl jn qa ql qn js qs) (hl : qs.length ≤ 1000) (m : Qm) :
    ∃ a c w2, (Builtin.append_ #[44, 44] 44 #[.slice qa ql qn, .slice (some ⟨w.heap.size, 0, none⟩) 1 1]).run Tryd.prog (w.alloc (.cells (qc m).toArray 27)) = .ok (.slice a (ql + 1) c) w2 ∧ w2.cell? ⟨sb, 1, none⟩ = some (.slice qa ql qn) ∧ w2.frozen? ⟨sb, 1, none⟩ = false ∧ sb < w2.heap.size ∧ Srv (w2.setCell ⟨sb, 1, none⟩ (.slice a (ql + 1) c)) base sb ja jl jn a (ql + 1) c js (qs ++ [m]) ∧ ChgP (SF base sb w) w (w2.setCell ⟨sb, 1, none⟩ (.slice a (ql + 1) c)) := by
  obtain ⟨w1, hw1⟩ : ∃ x, x = w.alloc (.cells (qc m).toArray 27) := ⟨_, rfl⟩
  have hc1 : Chg [] w w1 := by rw [hw1]; exact (Chg.refl _ _).alloc _
  have hb1 : w1.heap[w.heap.size]? = some (.cells (qc m).toArray 27 (0, 0)) := by rw [hw1]; exact heap_at _ _ _ rfl
  rw [← hw1]
  have h1 := h.new hc1
  obtain ⟨i0, hi, hz0, hz1, hz2⟩ := info_parts infoQm
  have hql := h.ql
  obtain ⟨v', w2, hr, ho, hg, _, hb5⟩ := run_append_own_at (P := Tryd.prog) w1 base 44 44 27 i0 _ 9 120 Tryd.underlying44 hi hz0 hz1 hz2 rfl (by decide) (.slice qa ql qn) ql (qs.flatMap qc) h1.queue ⟨w.heap.size, 0, none⟩ 1 1 (qc m) rfl (fun j u hj => by
    rw [Addr.add_lit, Nat.zero_add]
    exact cell_of_heap hb1 (by simpa using hj)) (fun u hu => qc_one [m] u (by simpa using hu)) (by unfold maxLen; omega) (by omega) h1.base
  have hsh := ownsRow_shape ho
  obtain ⟨a, c, rfl⟩ := hsh
  have hc2 : Chg (Value.slice qa ql qn).ownBlock.toList w1 w2 := (Chg.refl _ w1).grown hg (by intro k hk; left; simp [hk])
  have hown : ∀ g, g ∈ (Value.slice qa ql qn).ownBlock.toList → base ≤ g := fun g hg => (ownsRow_ge h1.queue (g := g) (by simpa using hg)).1
  have hsb := h.sb
  have hbx := (hc2.block sb (lt_of_obj h1.box) (fun hm => by have := hown _ hm; omega)).trans h1.box
  have hcs : Chg [sb] w2 (w2.setCell ⟨sb, 1, none⟩ (.slice a (ql + 1) c)) := (Chg.refl [sb] w2).setCell (Or.inl (by simp)) _
  refine ⟨a, c, w2, hr, cell_of_heap hbx rfl, frozen_of_heap (i := 1) hbx, lt_of_obj hbx, ⟨heap_setCell_same (i := 1) hbx _, ?_, ?_, h.jl, by rw [List.length_append, hql]; rfl, hsb, Nat.le_trans h1.base (Nat.le_trans hc2.size hcs.size), h.xj, fun g hg hx => ?_, fun g hg => Nat.lt_of_lt_of_le (h1.xl g hg) (Nat.le_trans hc2.size hcs.size)⟩, ?_⟩
  · refine ownsRow_kept (ownsRow_kept h1.jobs fun g hg hl => hc2.block g hl fun hm => ?_) fun g hg hl => hcs.block g hl fun hm => ?_
    · exact h1.ne hg (by simpa using hm) rfl
    · have := (ownsRow_ge h1.jobs hg).1; have := List.mem_singleton.1 hm; omega
  · rw [List.flatMap_append, show [m].flatMap qc = qc m by simp]
    exact ownsRow_kept ho fun g hg hl => hcs.block g hl fun hm => by have := (ownsRow_ge ho hg).1; have := List.mem_singleton.1 hm; omega
  · rcases hb5 with e | e
    · exact h.xq g (by rw [← e]; exact hg) hx
    · have h5 := h1.xl g hx
      rw [e] at hg
      cases hg
      omega
  · have e1 : ChgP (SF base sb w) w w2 := hc1.p.comp hc2.toP fun g hg => by
      by_cases hgw : g < w.heap.size
      · exact Or.inl (h.qq (by simpa using hg))
      · exact Or.inr (by omega)
    exact e1.setCell (Or.inl (Or.inl rfl)) _
/-- one job more -/
theorem Srv.pushJ (h : Srv w base sb ja jl jn qa ql qn js qs) (hl : js.length ≤ 1000) (j : Jb) :
    ∃ a c w2, (Builtin.append_ #[71, 71] 71 #[.slice ja jl jn, .slice (some ⟨w.heap.size, 0, none⟩) 1 1]).run Tryd.prog (w.alloc (.cells (jc j).toArray 80)) = .ok (.slice a (jl + 1) c) w2 ∧ w2.cell? ⟨sb, 0, none⟩ = some (.slice ja jl jn) ∧ w2.frozen? ⟨sb, 0, none⟩ = false ∧ sb < w2.heap.size ∧ Srv (w2.setCell ⟨sb, 0, none⟩ (.slice a (jl + 1) c)) base sb a (jl + 1) c qa ql qn (js ++ [j]) qs ∧ ChgP (SF base sb w) w (w2.setCell ⟨sb, 0, none⟩ (.slice a (jl + 1) c)) := by
  obtain ⟨w1, hw1⟩ : ∃ x, x = w.alloc (.cells (jc j).toArray 80) := ⟨_, rfl⟩
  have hc1 : Chg [] w w1 := by rw [hw1]; exact (Chg.refl _ _).alloc _
  have hb1 : w1.heap[w.heap.size]? = some (.cells (jc j).toArray 80 (0, 0)) := by rw [hw1]; exact heap_at _ _ _ rfl
  rw [← hw1]
  have h1 := h.new hc1
  obtain ⟨i0, hi, hz0, hz1, hz2⟩ := info_parts infoJb
  have hjl := h.jl
  obtain ⟨v', w2, hr, ho, hg, _, hb5⟩ := run_append_own_at (P := Tryd.prog) w1 base 71 71 80 i0 _ 3 16 Tryd.underlying71 hi hz0 hz1 hz2 rfl (by decide) (.slice ja jl jn) jl (js.flatMap jc) h1.jobs ⟨w.heap.size, 0, none⟩ 1 1 (jc j) rfl (fun q u hj => by
    rw [Addr.add_lit, Nat.zero_add]
    exact cell_of_heap hb1 (by simpa using hj)) (fun u hu => jc_one [j] u (by simpa using hu)) (by unfold maxLen; omega) (by omega) h1.base
  obtain ⟨a, c, rfl⟩ := ownsRow_shape ho
  have hc2 : Chg (Value.slice ja jl jn).ownBlock.toList w1 w2 := (Chg.refl _ w1).grown hg (by intro k hk; left; simp [hk])
  have hown : ∀ g, g ∈ (Value.slice ja jl jn).ownBlock.toList → base ≤ g := fun g hg => (ownsRow_ge h1.jobs (g := g) (by simpa using hg)).1
  have hsb := h.sb
  have hbx := (hc2.block sb (lt_of_obj h1.box) (fun hm => by have := hown _ hm; omega)).trans h1.box
  have hcs : Chg [sb] w2 (w2.setCell ⟨sb, 0, none⟩ (.slice a (jl + 1) c)) := (Chg.refl [sb] w2).setCell (Or.inl (by simp)) _
  refine ⟨a, c, w2, hr, cell_of_heap hbx rfl, frozen_of_heap (i := 0) hbx, lt_of_obj hbx, ⟨heap_setCell_same (i := 0) hbx _, ?_, ?_, by rw [List.length_append, hjl]; rfl, h.ql, hsb, Nat.le_trans h1.base (Nat.le_trans hc2.size hcs.size), fun g hg hx => ?_, h.xq, fun g hg => Nat.lt_of_lt_of_le (h1.xl g hg) (Nat.le_trans hc2.size hcs.size)⟩, ?_⟩
  · rw [List.flatMap_append, show [j].flatMap jc = jc j by simp]
    exact ownsRow_kept ho fun g hg hl => hcs.block g hl fun hm => by have := (ownsRow_ge ho hg).1; have := List.mem_singleton.1 hm; omega
  · refine ownsRow_kept (ownsRow_kept h1.queue fun g hg hl => hc2.block g hl fun hm => ?_) fun g hg hl => hcs.block g hl fun hm => ?_
    · exact h1.ne (g := g) (by simpa using hm) hg rfl
    · have := (ownsRow_ge h1.queue hg).1; have := List.mem_singleton.1 hm; omega
  · rcases hb5 with e | e
    · exact h.xj g (by rw [← e]; exact hg) hx
    · have h5 := h1.xl g hx
      rw [e] at hg
      cases hg
      omega
  · have e1 : ChgP (SF base sb w) w w2 := hc1.p.comp hc2.toP fun g hg => by
      by_cases hgw : g < w.heap.size
      · exact Or.inl (h.jq (by simpa using hg))
      · exact Or.inr (by omega)
    exact e1.setCell (Or.inl (Or.inl rfl)) _
/-- one cell of a job -/
theorem Srv.setJ (h : Srv w base sb ja jl jn qa ql qn js qs) {i g : Nat} (hi : i < js.length) (hg : ja = some ⟨g, 0, none⟩) (c : Nat) (hc : c < 3) (u : Value) (j' : Jb) (hj : jc j' = (jc js[i]).set c u) :
    Srv (w.setCell ⟨g, i * 3 + c, none⟩ u) base sb ja jl jn qa ql qn (js.set i j') qs ∧ ChgP (SF base sb w) w (w.setCell ⟨g, i * 3 + c, none⟩ u) := by
  subst hg
  have hjl := h.jl
  have hcs : Chg [g] w (w.setCell ⟨g, i * 3 + c, none⟩ u) := (Chg.refl [g] w).setCell (Or.inl (by simp)) _
  obtain ⟨hge, hgl⟩ := ownsRow_ge h.jobs (g := g) rfl
  have hsb := h.sb
  refine ⟨⟨(hcs.block sb (lt_of_obj h.box) (by simp; omega)).trans h.box, ?_, ownsRow_kept h.queue fun q hq hl => hcs.block q hl fun hm => ?_, by rw [List.length_set]; exact hjl, h.ql, hsb, Nat.le_trans h.base hcs.size, h.xj, h.xq, fun g hg => Nat.lt_of_lt_of_le (h.xl g hg) hcs.size⟩, ChgP.setCell (p := ⟨g, i * 3 + c, none⟩) (ChgP.refl _ _) (Or.inl (h.jq rfl)) _⟩
  · have h2 := row_set (u := u) (i := i * 3 + c) h.jobs (by omega)
    rw [fm_set jc_len js i hi c j' u hc hj] at h2
    exact h2
  · have := List.mem_singleton.1 hm
    subst this
    exact h.ne rfl hq rfl
end
theorem not_jq {w : World} {g : Nat} {cs : Array Value} {T : TypeId} {fr : Nat × Nat} (hb : w.heap[g]? = some (.cells cs T fr)) (hT : T ≠ 80 ∧ T ≠ 27) : ¬ JQ w g := by
  rintro ⟨cs', T', fr', hb', h⟩
  rw [hb] at hb'
  simp only [Option.some.injEq, Obj.cells.injEq] at hb'
  rcases h with rfl | rfl
  · exact hT.1 hb'.2.1
  · exact hT.2 hb'.2.1
theorem sf_box {base : Bs} {sb g : Nat} {w w' : World} {cs : Array Value} {T : TypeId} {fr : Nat × Nat} (h : ChgP (SF base sb w) w w') (hb : w.heap[g]? = some (.cells cs T fr)) (hT : T ≠ 80 ∧ T ≠ 27) (hg : g ≠ sb) : w'.heap[g]? = some (.cells cs T fr) :=
  (h.block g (lt_of_obj hb) (fun hs => hs.elim hg fun h => not_jq hb hT h.2.1)).trans hb
theorem Srv.kept {w w' : World} {S : Nat → Prop} {base : Bs} {sb jl jn ql qn : Nat} {ja qa : Option Addr} {js : List Jb} {qs : List Qm} (h : Srv w base sb ja jl jn qa ql qn js qs) (hc : ChgP S w w') (hS : ∀ g, S g → g ≠ sb ∧ ¬ JQ w g) : Srv w' base sb ja jl jn qa ql qn js qs :=
  ⟨(hc.block sb (lt_of_obj h.box) (fun hs => (hS _ hs).1 rfl)).trans h.box, ownsRow_kept h.jobs (fun g hg hl => hc.block g hl fun hs => by
    obtain ⟨cs, fr, hb⟩ := own_type h.jobs hg
    exact (hS _ hs).2 ⟨cs, _, fr, hb, Or.inl rfl⟩), ownsRow_kept h.queue (fun g hg hl => hc.block g hl fun hs => by
    obtain ⟨cs, fr, hb⟩ := own_type h.queue hg
    exact (hS _ hs).2 ⟨cs, _, fr, hb, Or.inr rfl⟩), h.jl, h.ql, h.sb, Nat.le_trans h.base hc.size, h.xj, h.xq, fun g hg => Nat.lt_of_lt_of_le (h.xl g hg) hc.size⟩
/-- an action's box, and two cells stored into it -/
def AB (w : World) (rb : Nat) : Prop := ∃ x y : Int, w.heap[rb]? = some (.cells #[.int .i64 x, .int .i64 y] 50 (0, 0))
theorem AB.facts {w : World} {rb : Nat} (h : AB w rb) : (∃ x y : Int, w.cell? ⟨rb, 0, none⟩ = some (.int .i64 x) ∧ w.cell? ⟨rb, 1, none⟩ = some (.int .i64 y)) ∧ w.frozen? ⟨rb, 0, none⟩ = false ∧ w.frozen? ⟨rb, 1, none⟩ = false ∧ rb < w.heap.size := by
  obtain ⟨x, y, h⟩ := h
  exact ⟨⟨x, y, cell_of_heap h rfl, cell_of_heap h rfl⟩, frozen_of_heap (i := 0) h, frozen_of_heap (i := 1) h, lt_of_obj h⟩
theorem AB.sf {w w' : World} {base : Bs} {rb sb : Nat} (h : AB w rb) (hc : ChgP (SF base sb w) w w') (hn : rb ≠ sb) : AB w' rb := by
  obtain ⟨x, y, h⟩ := h
  exact ⟨x, y, sf_box hc h (by decide) hn⟩
theorem AB.new {w w' : World} {rb : Nat} (h : AB w rb) (hc : Chg [] w w') : AB w' rb := by
  obtain ⟨x, y, h⟩ := h
  exact ⟨x, y, (hc.block rb (lt_of_obj h) (by simp)).trans h⟩
theorem AB.set2 {w : World} {base : Bs} {rb sb jl jn ql qn : Nat} {ja qa : Option Addr} {js : List Jb} {qs : List Qm} (h : AB w rb) (hs : Srv w base sb ja jl jn qa ql qn js qs) (hn : rb ≠ sb) (u v : Value) : Srv ((w.setCell ⟨rb, 0, none⟩ u).setCell ⟨rb, 1, none⟩ v) base sb ja jl jn qa ql qn js qs ∧ Chg [rb] w ((w.setCell ⟨rb, 0, none⟩ u).setCell ⟨rb, 1, none⟩ v) := by
  obtain ⟨x, y, h⟩ := h
  have hc : Chg [rb] w ((w.setCell ⟨rb, 0, none⟩ u).setCell ⟨rb, 1, none⟩ v) := ((Chg.refl [rb] w).setCell (p := ⟨rb, 0, none⟩) (Or.inl (by simp)) _).setCell (p := ⟨rb, 1, none⟩) (Or.inl (by simp)) _
  refine ⟨hs.kept hc.toP fun g hg => ?_, hc⟩
  obtain rfl := List.mem_singleton.1 hg
  exact ⟨hn, not_jq h (by decide)⟩
def AnyR (e : Ending) : Prop := ∃ v, e = .returned v
set_option maxRecDepth 100000 in
set_option maxHeartbeats 4000000 in
theorem reject_any (w : World) (base : Bs) (sb jl jn ql qn : Nat) (ja qa : Option Addr) (js : List Jb) (qs : List Qm) (i c : Int) (t : ByteArray) (h : Srv w base sb ja jl jn qa ql qn js qs) (hl : qs.length ≤ 1000) :
    Calls Tryd.prog 60 #[.pointer (some ⟨sb, 0, none⟩), .int .i64 i, .int .i64 c, .string t] w fun e w' => e = .returned (.agg #[.int .i64 0, .int .i64 0]) ∧ SvPost base sb js (qs ++ [⟨4, i, c, t⟩]) w w' := by
  obtain ⟨w1, hw1⟩ : ∃ x, x = w.alloc (.cells #[.int .i64 0, .int .i64 0] 50) := ⟨_, rfl⟩
  obtain ⟨rb, hrb⟩ : ∃ x, x = w.heap.size := ⟨_, rfl⟩
  have hc1 : Chg [] w w1 := by rw [hw1]; exact (Chg.refl _ _).alloc _
  have hr1 : w1.heap[rb]? = some (.cells #[.int .i64 0, .int .i64 0] 50 (0, 0)) := by rw [hw1, hrb]; exact heap_at _ _ _ rfl
  have H1 := Lib.hid (h.new hc1)
  have Hc1 := Lib.hid hc1
  have Hr1 := Lib.hid hr1
  obtain ⟨a, cc, w2, hr, x1, x2, x3, hS, hC⟩ := H1.out.pushQ hl ⟨4, i, c, t⟩
  have Hr := Lib.hid hr
  have HS := Lib.hid (And.intro hS hC)
  have c1 := H1.out.c1
  have lb := lt_of_cell c1
  have HQ := Lib.hid (And.intro h.jl h.ql)
  have hne : rb ≠ sb := by have h1 := h.sb; have h2 := h.base; omega
  clear h hc1 hr1 hr hS hC
  unfold qc at Hr
  go_enter Tryd.func60, Tryd.ntmps60
  go_upto_region 1 with fail
  rw [← hw1, ← hrb]
  clear hw1
  have hA2 : AB (w2.setCell ⟨sb, 1, none⟩ (.slice a (ql + 1) cc)) rb := AB.sf ⟨0, 0, Hr1.out⟩ HS.out.2 hne
  obtain ⟨⟨x, y, r0, r1⟩, f0, f1, lr⟩ := hA2.facts
  have HA := Lib.hid hA2
  have Hne := Lib.hid (And.intro hne hrb)
  clear hA2 hne hrb
  go_wp2_with (at_builtin; refine wpList_append_run rfl _ _ _ rfl _ _ _ _ rfl rfl Hr.out ?_)
  refine bodyPost_ret (v := .agg #[.int .i64 0, .int .i64 0]) (by simp [results, Tryd.results60, go_sem, r0, r1]) rfl ?_
  obtain ⟨hS2, hC2⟩ := HA.out.set2 HS.out.1 Hne.out.1 (.int .i64 0) (.int .i64 0)
  obtain ⟨hjl, hql⟩ := HQ.out
  refine ⟨rfl, ⟨ja, jn, a, cc, ?_⟩, ?_⟩
  · rw [List.length_append, ← hql, ← hjl]
    exact hS2
  · exact (sf_trans (sf_new Hc1.out) HS.out.2).comp hC2.toP fun g hg => Or.inr (by have := List.mem_singleton.1 hg; have := Hne.out.2; omega)
end Go.Proofs.YtiklgipcgdgkoaaDoor.Jv
