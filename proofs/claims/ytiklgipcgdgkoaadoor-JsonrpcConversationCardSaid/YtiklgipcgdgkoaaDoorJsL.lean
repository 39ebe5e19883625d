/- A server: answer, Respond, Fail, Receive. -/
import Derived.Test.YtiklgipcgdgkoaaDoorJsF
import Derived.Test.YtiklgipcgdgkoaaDoorJsK
import Derived.Deep.RegionLaw
namespace Go.Proofs.YtiklgipcgdgkoaaDoor.Jv
open Go.RowKit Go.ChangeMaps Go.MapKept
set_option linter.unusedVariables false
set_option linter.unusedSimpArgs false
theorem step_append_run {P : Program} {ops : Array Oper} {o : Oper} {a : Act} {w : World} {K : Act → World → Prop} {Q : Exit → Act → World → Prop} {E : Prop} (hgd : o.guard = none) (s x : Operand) (t : TypeId)
    (ho : o.op = .call { callee := .builtin .append, args := #[s, x], argTypes := #[t, t] }) (v vx v' : Value) (w' : World) (hs : a.eval s = v) (hx : a.eval x = vx)
    (hr : (Builtin.append_ #[t, t] o.type #[v, vx]).run P w = .ok v' w') (h : K (a.put o.dst v') w') : if Region.wanted o (yielded ops a.tmps) = true then Oper.wp P o a w K Q else E := by
  have hw : Region.wanted o (yielded ops a.tmps) = true := by simp [Region.wanted, hgd]
  rw [if_pos hw]
  unfold Oper.wp execOp
  simp only [ho, resolve, invoke, builtin, Sem.run_bind, Sem.run_pure, Result.andThen_ok, List.map_toArray, List.map_cons, List.map_nil, hs, hx, hr]
  exact h
/-- the tables lie below a server's blocks -/
def Low (base : Bs) (sb : Nat) : Prop := (Tryd.laysValid_ren.g 3 < sb ∧ Tryd.laysValid_ren.g 4 < sb) ∧ 2 < sb ∧ sb < base
def TP (w : World) : Prop := Tb w ∧ P10 w
theorem TP.sf {w w' : World} {base : Bs} {sb : Nat} (h : TP w) (hc : ChgP (SF base sb w) w w') (hl : Low base sb) : TP w' := by
  have hn : ∀ g, g < sb → ¬ SF base sb w g := fun g hg hs => hs.elim (by omega) fun h => by have := hl.2.2; have := h.1; omega
  exact ⟨h.1.kept hc (hn _ hl.1.1) (hn _ hl.1.2), h.2.kept hc (hn _ hl.2.1)⟩
theorem TP.new {w w' : World} (h : TP w) (hc : Chg [] w w') : TP w' := ⟨h.1.new hc, h.2.kept (S := fun _ => False) hc.p (fun h => h)⟩
theorem SvPost.low {base : Bs} {sb : Nat} {js : List Jb} {qs : List Qm} {w w' : World} (h : SvPost base sb js qs w w') (hT : TP w) (hl : Low base sb) : TP w' := hT.sf h.2 hl
def jd : Jb := (0, false, false)
/-- the jobs once number n is answered -/
def ansJ (js : List Jb) (n : Nat) : List Jb := js.set n ((js.getD n jd).1, false, (js.getD n jd).2.2)
theorem getD_ge {js : List Jb} {n : Nat} (hn : n < js.length) : js.getD n jd = js[n] := by simp [hn]
set_option maxRecDepth 100000 in
set_option maxHeartbeats 8000000 in
theorem answer_any (w : World) (base : Bs) (sb jl jn ql qn : Nat) (ja qa : Option Addr) (js : List Jb) (qs : List Qm) (n : Nat) (k c : Int) (t : ByteArray) (h : Srv w base sb ja jl jn qa ql qn js qs) (hl : js.length ≤ 1000) (hq : qs.length ≤ 1000) (hn : n < js.length) (hG : Gd k (js.getD n jd).1 c t) (hT : Tb w) :
    Calls Tryd.prog 43 #[.pointer (some ⟨sb, 0, none⟩), .int .i64 (n : Nat), mV k 0 c t] w fun e w' => e = .returned (.int .i64 0) ∧ SvPost base sb (ansJ js n) (qs ++ [⟨k, (js.getD n jd).1, c, t⟩]) w w' := by
  rw [getD_ge hn] at hG ⊢
  obtain ⟨mb, hmb⟩ : ∃ x, x = w.heap.size := ⟨_, rfl⟩
  obtain ⟨w1, hw1⟩ : ∃ x, x = w.alloc (.cells #[.int .i64 k, .int .i64 js[n].1, .int .i64 c, .string t, .int .i64 0, .int .i64 0, .string ⟨#[]⟩, .slice none 0 0, .slice none 0 0] 27) := ⟨_, rfl⟩
  have hc1 : Chg [] w w1 := by rw [hw1]; exact (Chg.refl _ _).alloc _
  have hm1 : w1.heap[mb]? = some (.cells #[.int .i64 k, .int .i64 js[n].1, .int .i64 c, .string t, .int .i64 0, .int .i64 0, .string ⟨#[]⟩, .slice none 0 0, .slice none 0 0] 27 (0, 0)) := by
    rw [hw1, hmb]; exact heap_at _ _ _ rfl
  obtain ⟨g, rfl, gb, lg, q0, q1, q2, hcap⟩ := h.job hn
  have H := Lib.hid (fun W (hc : Chg [] w W) => h.new hc)
  have HE := Lib.hid (fun W (hc : Chg [] w W) => enc_msg k js[n].1 c t W hG (hT.new hc))
  have Hc1 := Lib.hid hc1
  have Hm1 := Lib.hid hm1
  have HL := Lib.hid (And.intro h.jl h.ql)
  have c0 := h.c0
  have lb := lt_of_cell c0
  have hn1 : (n : Int) < jl := by have := h.jl; omega
  have hn0 : (0 : Int) ≤ (n : Int) := by omega
  have Hgm : Hid (g < w.heap.size ∧ mb = w.heap.size ∧ base ≤ w.heap.size) := Lib.hid ⟨lg, hmb, h.base⟩
  have hid : Hid (js[n].1 = js[n].1) := Lib.hid rfl
  have HA : Hid (ansJ js n = js.set n (js[n].1, false, js[n].2.2)) := Lib.hid (by unfold ansJ; rw [getD_ge hn])
  have HJ : Hid (∀ W, Chg [] w W → Srv (W.setCell ⟨g, n * 3 + 1, none⟩ (.bool false)) base sb (some ⟨g, 0, none⟩) jl jn qa ql qn (ansJ js n) qs ∧ ChgP (SF base sb W) W (W.setCell ⟨g, n * 3 + 1, none⟩ (.bool false))) := Lib.hid fun W hc => by
    rw [HA.out]
    exact (h.new hc).setJ hn rfl 1 (by decide) (.bool false) (js[n].1, false, js[n].2.2) rfl
  generalize js[n] = j at *
  obtain ⟨j0, j1, j2⟩ := j
  simp only at q0 q1 q2 Hm1 hw1 HE ⊢
  have Hq1 := Lib.hid (And.intro c0 q1)
  clear h hc1 hm1 hG hT hid q1 q2 HA hn
  unfold mV at *
  go_enter Tryd.func43, Tryd.ntmps43
  go_upto_region 2 with fail
  rw [← hw1, ← hmb]
  clear hw1 hmb c0 lb lg q0
  obtain ⟨m0, m1, m2, m3, m4, m5, m6, m7, m8⟩ := msg_cells mb Hm1.out (Chg.refl [] w1)
  go_wp2_with fail
  refine (HE.out w1 Hc1.out).mono ?_
  rintro e w2 ⟨v, rfl, hv, hc2⟩
  obtain ⟨ev, rfl⟩ := hv.ev'
  unfold Ev.val
  clear hv m0 m1 m2 m3 m4 m5 m6 m7 m8
  obtain ⟨w3, hw3⟩ : ∃ x, x = w2.alloc (.cells #[.int .i64 ev.k, .int .i64 ev.n, .string ev.t, .slice ev.na ev.nl ev.nc, .slice ev.ia ev.il ev.ic] 25) := ⟨_, rfl⟩
  have hc3 : Chg [] w1 w3 := by rw [hw3]; exact hc2.alloc _
  have Hc3 := Lib.hid (Hc1.out.trans hc3)
  have Hd3 := Lib.hid hc3
  clear hc2 hc3
  go_upto_region 3 with fail
  rw [← hw3]
  clear hw3
  have h3 := H.out w3 Hc3.out
  have c0 := h3.c0
  have lb := lt_of_cell c0
  have q1 : w3.cell? ⟨g, n * 3 + 1, none⟩ = some (.bool j1) := (Hc3.out.cell Hgm.out.1 (by simp)).trans Hq1.out.2
  have fg : w3.frozen? ⟨g, n * 3 + 1, none⟩ = false := by
    rcases h3.jobs.2 with ⟨hv, hx⟩ | ⟨g', cap', cur, hv, hge, hh, _⟩
    · cases hv
    · cases hv
      exact frozen_of_heap (i := n * 3 + 1) hh
  have lg := lt_of_cell q1
  clear h3
  obtain ⟨w4, hw4⟩ : ∃ x, x = w3.setCell ⟨g, n * 3 + 1, none⟩ (.bool false) := ⟨_, rfl⟩
  have hj4 := HJ.out w3 Hc3.out
  rw [← hw4] at hj4
  obtain ⟨hs4, hC4⟩ := hj4
  have hm4 : w4.heap[mb]? = some (.cells #[.int .i64 k, .int .i64 j0, .int .i64 c, .string t, .int .i64 0, .int .i64 0, .string ⟨#[]⟩, .slice none 0 0, .slice none 0 0] 27 (0, 0)) := by
    have hlt := lt_of_obj Hm1.out
    rw [hw4, heap_setCell_ne _ _ _ _ (by have := Hgm.out; simp only; omega)]
    exact (Hd3.out.block mb hlt (by simp)).trans Hm1.out
  go_upto_region 6 with fail
  rw [← hw4]
  clear hw4 c0 lb q1 fg lg
  obtain ⟨a, cc, w5, hr, x1, x2, x3, hS, hC⟩ := (hs4.new ((Chg.refl [] w4).drew)).pushQ hq ⟨k, j0, c, t⟩
  have Hr := Lib.hid hr
  have HS := Lib.hid (And.intro hS hC)
  have HC4 := Lib.hid hC4
  have c1 := hs4.c1
  have lb := lt_of_cell c1
  obtain ⟨m0, m1, m2, m3, m4, m5, m6, m7, m8⟩ := msg_cells mb hm4 (Chg.refl [] w4)
  have lm := lt_of_cell m0
  clear hr hS hC hC4 hs4 hm4
  unfold qc at Hr
  go_region_law (refine step_append_run rfl _ _ _ rfl _ _ _ _ rfl rfl Hr.out ?_)
  all_goals
    go_wp2_with fail
    go_ret
    refine ⟨rfl, ⟨some ⟨g, 0, none⟩, jn, a, cc, ?_⟩, ?_⟩
    · rw [List.length_append, ← HL.out.2, show (ansJ js n).length = jl by rw [HL.out.1]; simp [ansJ]]
      exact HS.out.1
    · refine sf_trans (sf_new Hc3.out) (sf_trans HC4.out (sf_trans (sf_new ((Chg.refl [] w4).drew)) HS.out.2))
end Go.Proofs.YtiklgipcgdgkoaaDoor.Jv
