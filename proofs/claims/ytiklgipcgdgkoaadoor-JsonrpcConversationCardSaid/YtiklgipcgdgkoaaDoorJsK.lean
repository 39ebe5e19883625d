/- A server: start, cancel. -/
import Derived.Test.YtiklgipcgdgkoaaDoorJsJ
namespace Go.Proofs.YtiklgipcgdgkoaaDoor.Jv
open Go.RowKit Go.ChangeMaps Go.MapKept
set_option linter.unusedVariables false
set_option linter.unusedSimpArgs false
def AnyA (e : Ending) : Prop := ∃ x y : Int, e = .returned (.agg #[.int .i64 x, .int .i64 y])
theorem SvPost.after {base : Bs} {sb : Nat} {js : List Jb} {qs : List Qm} {w w1 w2 : World} (h : SvPost base sb js qs w1 w2) (hc : Chg [] w w1) : SvPost base sb js qs w w2 := ⟨h.1, sf_trans (sf_new hc) h.2⟩
theorem act_end {w w1 : World} {base : Bs} {sb rb : Nat} {js : List Jb} {qs : List Qm} (hS : SvPost base sb js qs w w1) (hA : AB w1 rb) (hrb : w.heap.size ≤ rb) (hne : rb ≠ sb) (u v : Value) : SvPost base sb js qs w ((w1.setCell ⟨rb, 0, none⟩ u).setCell ⟨rb, 1, none⟩ v) := by
  obtain ⟨⟨ja, jn, qa, qn, h⟩, hC⟩ := hS
  obtain ⟨hS2, hC2⟩ := hA.set2 h hne u v
  exact ⟨⟨ja, jn, qa, qn, hS2⟩, hC.comp hC2.toP fun g hg => Or.inr (by have := List.mem_singleton.1 hg; omega)⟩
/-- a message that a server queues -/
def Qk (m : Qm) : Prop := Gd m.k m.i m.c m.t ∧ (m.k = 3 ∨ m.k = 4)
/-- a request starts a job, or is rejected -/
def StN (js : List Jb) (qs : List Qm) (i : Int) (js' : List Jb) (qs' : List Qm) : Prop := (js' = js ++ [(i, true, false)] ∧ qs' = qs) ∨ (js' = js ∧ ∃ m : Qm, qs' = qs ++ [m] ∧ m.i = i ∧ Qk m)
def StPost (base : Bs) (sb : Nat) (js : List Jb) (qs : List Qm) (i : Int) (w : World) (e : Ending) (w' : World) : Prop := AnyA e ∧ ∃ js' qs', StN js qs i js' qs' ∧ SvPost base sb js' qs' w w'
theorem gd4 {i c : Int} {t : ByteArray} (h : 0 ≤ i ∧ i ≤ 2147483647) (hc : 1 ≤ c ∧ c ≤ 99) (ht : t.size ≤ 60) (hu : u8 t = true) : Qk ⟨4, i, c, t⟩ := ⟨⟨h, Or.inr (Or.inl ⟨rfl, hc, ht, hu⟩)⟩, Or.inr rfl⟩
theorem qk_dup {i : Int} (h : 0 ≤ i ∧ i ≤ 2147483647) : Qk ⟨4, i, 6, ⟨#[100, 117, 112, 108, 105, 99, 97, 116, 101, 32, 114, 101, 113, 117, 101, 115, 116]⟩⟩ := gd4 h (by decide) (by decide) (by decide)
theorem qk_many {i : Int} (h : 0 ≤ i ∧ i ≤ 2147483647) : Qk ⟨4, i, 2, ⟨#[116, 111, 111, 32, 109, 97, 110, 121, 32, 114, 101, 113, 117, 101, 115, 116, 115]⟩⟩ := gd4 h (by decide) (by decide) (by decide)
set_option maxRecDepth 100000 in
set_option maxHeartbeats 8000000 in
theorem start_any (w : World) (base : Bs) (sb jl jn ql qn : Nat) (ja qa : Option Addr) (js : List Jb) (qs : List Qm) (i : Int) (h : Srv w base sb ja jl jn qa ql qn js qs) (hl : js.length ≤ 1000) (hq : qs.length ≤ 1000) (hi : 0 ≤ i ∧ i ≤ 2147483647) :
    Calls Tryd.prog 40 #[.pointer (some ⟨sb, 0, none⟩), .int .i64 i] w (StPost base sb js qs i w) := by
  obtain ⟨w1, hw1⟩ : ∃ x, x = w.alloc (.cells #[.int .i64 0, .int .i64 0] 50) := ⟨_, rfl⟩
  obtain ⟨rb, hrb⟩ : ∃ x, x = w.heap.size := ⟨_, rfl⟩
  have hc1 : Chg [] w w1 := by rw [hw1]; exact (Chg.refl _ _).alloc _
  have hr1 : AB w1 rb := ⟨0, 0, by rw [hw1, hrb]; exact heap_at _ _ _ rfl⟩
  have H := Lib.hid (fun W (hc : Chg [] w W) => h.new hc)
  have Hc1 := Lib.hid hc1
  have Hr1 := Lib.hid hr1
  have HR := Lib.hid (fun W (hc : Chg [] w W) c t => reject_any W base sb jl jn ql qn ja qa js qs i c t (h.new hc) hq)
  have HP := Lib.hid (fun W (hc : Chg [] w W) => pending_any W base sb jl jn ql qn ja qa js qs (h.new hc) hl)
  have HF := Lib.hid (find_any w1 base sb jl jn ql qn ja qa js qs i (h.new hc1) hl)
  have Hne : Hid (rb ≠ sb ∧ w.heap.size ≤ rb) := Lib.hid ⟨by have h1 := h.sb; have h2 := h.base; omega, by omega⟩
  have HL := Lib.hid (And.intro h.jl h.ql)
  have Hi := Lib.hid hi
  have lb1 : sb < w1.heap.size := Nat.lt_of_lt_of_le (lt_of_obj h.box) hc1.size
  clear h hc1 hr1 hi
  go_enter Tryd.func40, Tryd.ntmps40
  go_upto_region 1 with fail
  rw [← hw1, ← hrb]
  clear hw1 hrb
  go_wp2_with fail
  refine HF.out.mono ?_
  rintro e w2 ⟨⟨z, rfl, hz⟩, hc2⟩
  have Hc2 := Lib.hid (Hc1.out.trans hc2)
  have Hr2 := Lib.hid (Hr1.out.new hc2)
  have lb2 : sb < w2.heap.size := Nat.lt_of_lt_of_le lb1 hc2.size
  clear lb1 hc2
  by_cases h0 : 0 ≤ z
  · have hd : decide (z ≥ 0) = true := decide_eq_true h0
    clear h0
    clear hz
    have Hcall := Lib.hid (HR.out w2 Hc2.out 6 ⟨#[100, 117, 112, 108, 105, 99, 97, 116, 101, 32, 114, 101, 113, 117, 101, 115, 116]⟩)
    go_wp2_with fail
    refine Hcall.out.mono ?_
    rintro e w3 ⟨rfl, hS⟩
    have hA3 : AB w3 rb := AB.sf Hr2.out hS.2 Hne.out.1
    obtain ⟨⟨x, y, r0, r1⟩, f0, f1, lr⟩ := hA3.facts
    have HS := Lib.hid (And.intro hS hA3)
    clear hS hA3
    go_wp2_with fail
    refine bodyPost_ret (v := .agg #[.int .i64 0, .int .i64 0]) (by simp [results, Tryd.results40, go_sem, r0, r1]) rfl ?_
    exact ⟨⟨0, 0, rfl⟩, js, _, Or.inr ⟨rfl, _, rfl, rfl, qk_dup Hi.out⟩, act_end (HS.out.1.after Hc2.out) HS.out.2 Hne.out.2 Hne.out.1 _ _⟩
  · have hd : decide (z ≥ 0) = false := decide_eq_false h0
    clear h0 hz
    have Hcall := Lib.hid (HP.out w2 Hc2.out)
    go_wp2_with fail
    refine Hcall.out.mono ?_
    rintro e w3 ⟨⟨a, c, rfl, ho⟩, hc3⟩
    have Hc3 := Lib.hid (Hc2.out.trans hc3)
    have Hr3 := Lib.hid (Hr2.out.new hc3)
    have lb3 : sb < w3.heap.size := Nat.lt_of_lt_of_le lb2 hc3.size
    clear ho hc3 lb2
    generalize (pendF 0 js).length = pn
    by_cases h40 : 40 ≤ pn
    · have hd2 : decide ((pn : Int) ≥ 40) = true := decide_eq_true (by omega)
      clear h40
      have Hcall := Lib.hid (HR.out w3 Hc3.out 2 ⟨#[116, 111, 111, 32, 109, 97, 110, 121, 32, 114, 101, 113, 117, 101, 115, 116, 115]⟩)
      go_wp2_with fail
      refine Hcall.out.mono ?_
      rintro e w4 ⟨rfl, hS⟩
      have hA3 : AB w4 rb := AB.sf Hr3.out hS.2 Hne.out.1
      obtain ⟨⟨x, y, r0, r1⟩, f0, f1, lr⟩ := hA3.facts
      have HS := Lib.hid (And.intro hS hA3)
      clear hS hA3
      go_wp2_with fail
      refine bodyPost_ret (v := .agg #[.int .i64 0, .int .i64 0]) (by simp [results, Tryd.results40, go_sem, r0, r1]) rfl ?_
      exact ⟨⟨0, 0, rfl⟩, js, _, Or.inr ⟨rfl, _, rfl, rfl, qk_many Hi.out⟩, act_end (HS.out.1.after Hc3.out) HS.out.2 Hne.out.2 Hne.out.1 _ _⟩
    · have hd2 : decide ((pn : Int) ≥ 40) = false := decide_eq_false (by omega)
      clear h40
      have h3 := H.out w3 Hc3.out
      obtain ⟨a2, cc, w4, hr, x1, x2, x3, hS, hC⟩ := h3.pushJ hl (i, true, false)
      have c0 := h3.c0
      have Hr := Lib.hid hr
      clear h3 hr
      unfold jc at Hr
      have HS := Lib.hid (And.intro hS (AB.sf Hr3.out hC Hne.out.1))
      have HC := Lib.hid hC
      obtain ⟨w5, hw5⟩ : ∃ x, x = w4.setCell ⟨sb, 0, none⟩ (.slice a2 (jl + 1) cc) := ⟨_, rfl⟩
      rw [← hw5] at HS HC
      have c05 := HS.out.1.c0
      have lb5 := lt_of_cell c05
      obtain ⟨⟨x, y, r0, r1⟩, f0, f1, lr⟩ := HS.out.2.facts
      have hbd : (jl : Int) + 1 ≤ 2000 := by have := HL.out.1; omega
      clear hS hC
      go_upto_region 6 with (at_builtin; refine wpList_append_run rfl _ _ _ rfl _ _ _ _ rfl rfl Hr.out ?_)
      rw [← hw5]
      clear hw5
      go_wp2_with fail
      refine bodyPost_ret (v := .agg #[.int .i64 1, .int .i64 jl]) (by simp [results, Tryd.results40, go_sem, r0, r1]) rfl ?_
      refine ⟨⟨1, jl, rfl⟩, _, _, Or.inl ⟨rfl, rfl⟩, act_end (SvPost.after ⟨⟨a2, cc, qa, qn, ?_⟩, HC.out⟩ Hc3.out) HS.out.2 Hne.out.2 Hne.out.1 _ _⟩
      rw [List.length_append, ← HL.out.1, ← HL.out.2]
      exact HS.out.1
/-- jobs without their canceled marks -/
def prJ (js : List Jb) : List (Int × Bool) := js.map fun j => (j.1, j.2.1)
theorem prJ_set {js : List Jb} {i : Nat} (hi : i < js.length) (b : Bool) : prJ (js.set i (js[i].1, js[i].2.1, b)) = prJ js := by
  unfold prJ
  apply List.ext_getElem (by simp)
  intro k h1 h2
  simp only [List.getElem_map, List.getElem_set]
  split
  · rename_i e; subst e; rfl
  · rfl
def CnPost (base : Bs) (sb : Nat) (js : List Jb) (qs : List Qm) (w : World) (e : Ending) (w' : World) : Prop := AnyA e ∧ ∃ js', prJ js' = prJ js ∧ SvPost base sb js' qs w w'
set_option maxRecDepth 100000 in
set_option maxHeartbeats 8000000 in
theorem cancel_any (w : World) (base : Bs) (sb jl jn ql qn : Nat) (ja qa : Option Addr) (js : List Jb) (qs : List Qm) (i : Int) (h : Srv w base sb ja jl jn qa ql qn js qs) (hl : js.length ≤ 1000) :
    Calls Tryd.prog 41 #[.pointer (some ⟨sb, 0, none⟩), .int .i64 i] w (CnPost base sb js qs w) := by
  obtain ⟨w1, hw1⟩ : ∃ x, x = w.alloc (.cells #[.int .i64 0, .int .i64 0] 50) := ⟨_, rfl⟩
  obtain ⟨rb, hrb⟩ : ∃ x, x = w.heap.size := ⟨_, rfl⟩
  have hc1 : Chg [] w w1 := by rw [hw1]; exact (Chg.refl _ _).alloc _
  have hr1 : AB w1 rb := ⟨0, 0, by rw [hw1, hrb]; exact heap_at _ _ _ rfl⟩
  have H := Lib.hid (fun W (hc : Chg [] w W) => h.new hc)
  have Hc1 := Lib.hid hc1
  have Hr1 := Lib.hid hr1
  have HF := Lib.hid (find_any w1 base sb jl jn ql qn ja qa js qs i (h.new hc1) hl)
  have Hne : Hid (rb ≠ sb ∧ w.heap.size ≤ rb) := Lib.hid ⟨by have h1 := h.sb; have h2 := h.base; omega, by omega⟩
  have HL := Lib.hid (And.intro h.jl h.ql)
  have lb1 : sb < w1.heap.size := Nat.lt_of_lt_of_le (lt_of_obj h.box) hc1.size
  clear h hc1 hr1
  go_enter Tryd.func41, Tryd.ntmps41
  go_upto_region 1 with fail
  rw [← hw1, ← hrb]
  clear hw1 hrb
  go_wp2_with fail
  refine HF.out.mono ?_
  rintro e w2 ⟨⟨z, rfl, hz⟩, hc2⟩
  have Hc2 := Lib.hid (Hc1.out.trans hc2)
  have Hr2 := Lib.hid (Hr1.out.new hc2)
  have h2 := H.out w2 Hc2.out
  obtain ⟨⟨x, y, r0, r1⟩, f0, f1, lr⟩ := Hr2.out.facts
  clear lb1 hc2
  have Hself : Hid (SvPost base sb js qs w w2) := Lib.hid ⟨⟨ja, jn, qa, qn, by rw [← HL.out.1, ← HL.out.2]; exact h2⟩, sf_new Hc2.out⟩
  rcases hz with rfl | ⟨n, rfl, hn⟩
  · have c0 := h2.c0
    clear h2
    go_wp2_with fail
    refine bodyPost_ret (v := .agg #[.int .i64 0, .int .i64 0]) (by simp [results, Tryd.results41, go_sem, r0, r1]) rfl ?_
    exact ⟨⟨0, 0, rfl⟩, js, rfl, act_end Hself.out Hr2.out Hne.out.2 Hne.out.1 _ _⟩
  · obtain ⟨g, rfl, _, lg, q0, q1, q2, hcap⟩ := h2.job hn
    have c0 := h2.c0
    have lb2 := lt_of_cell c0
    obtain ⟨w3, hw3⟩ : ∃ x, x = w2.setCell ⟨g, n * 3 + 2, none⟩ (.bool true) := ⟨_, rfl⟩
    have hset := h2.setJ hn rfl 2 (by decide) (.bool true) (js[n].1, js[n].2.1, true) rfl
    rw [← hw3] at hset
    have HS := Lib.hid hset
    have hA3 : AB w3 rb := AB.sf Hr2.out hset.2 Hne.out.1
    have Hpr := Lib.hid (prJ_set hn true)
    generalize js[n] = j at q0 q1 q2 HS Hpr
    obtain ⟨j0, j1, j2⟩ := j
    simp only at q0 q1 q2 HS Hpr
    have hn1 : (n : Int) < jl := by have := HL.out.1; omega
    have hn0 : (0 : Int) ≤ (n : Int) := by omega
    have hn2 : decide ((n : Int) < 0) = false := decide_eq_false (by omega)
    have fg : w2.frozen? ⟨g, n * 3 + 2, none⟩ = false := by
      rcases h2.jobs.2 with ⟨hv, hx⟩ | ⟨g', cap', cur, hv, hge, hh, _⟩
      · cases hv
      · cases hv
        exact frozen_of_heap (i := n * 3 + 2) hh
    clear h2 hset
    cases j2
    · obtain ⟨⟨x3, y3, s0, s1⟩, f03, f13, lr3⟩ := hA3.facts
      have HA := Lib.hid hA3
      clear hA3
      go_upto_region 5 with fail
      rw [← hw3]
      clear hw3
      go_wp2_with fail
      refine bodyPost_ret (v := .agg #[.int .i64 2, .int .i64 n]) (by simp [results, Tryd.results41, go_sem, s0, s1]) rfl ?_
      refine ⟨⟨2, n, rfl⟩, _, Hpr.out, act_end (SvPost.after ⟨⟨some ⟨g, 0, none⟩, jn, qa, qn, ?_⟩, HS.out.2⟩ Hc2.out) HA.out Hne.out.2 Hne.out.1 _ _⟩
      rw [List.length_set, ← HL.out.1, ← HL.out.2]
      exact HS.out.1
    · clear hA3
      go_wp2_with fail
      refine bodyPost_ret (v := .agg #[.int .i64 0, .int .i64 0]) (by simp [results, Tryd.results41, go_sem, r0, r1]) rfl ?_
      exact ⟨⟨0, 0, rfl⟩, js, rfl, act_end Hself.out Hr2.out Hne.out.2 Hne.out.1 _ _⟩
end Go.Proofs.YtiklgipcgdgkoaaDoor.Jv
