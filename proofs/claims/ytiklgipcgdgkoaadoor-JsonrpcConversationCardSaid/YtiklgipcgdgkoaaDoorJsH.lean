/- A server: find, check, Pending. -/
import Derived.Test.YtiklgipcgdgkoaaDoorJsG
namespace Go.Proofs.YtiklgipcgdgkoaaDoor.Jv
open Go.RowKit Go.ChangeMaps Go.MapKept
set_option linter.unusedVariables false
set_option linter.unusedSimpArgs false
def AnyB (e : Ending) : Prop := ∃ r, e = .returned (.bool r)
set_option maxHeartbeats 4000000 in
theorem findClo_any (id x : Int) (p c : Bool) (b : Nat) (w : World) (hb : w.cell? ⟨b, 0, none⟩ = some (.int .i64 x)) :
    Calls Tryd.prog 74 #[.agg #[.int .i64 id, .bool p, .bool c], .pointer (some ⟨b, 0, none⟩)] w fun e w' => AnyB e ∧ Chg [] w w' := by
  have lb := lt_of_cell hb
  cases p
  · go_enter Tryd.func74, Tryd.ntmps74
    go_wp2_with fail
    go_ret
    exact ⟨⟨_, rfl⟩, (Chg.refl _ _).alloc _⟩
  · go_enter Tryd.func74, Tryd.ntmps74
    go_wp2_with fail
    go_ret
    exact ⟨⟨_, rfl⟩, (Chg.refl _ _).alloc _⟩
/-- no place, or one -/
def Ix (n : Nat) (z : Int) : Prop := z = -1 ∨ ∃ i : Nat, z = i ∧ i < n
set_option maxHeartbeats 8000000 in
theorem findIx_any (w : World) (base : Bs) (sb jl jn ql qn : Nat) (ja qa : Option Addr) (js : List Jb) (qs : List Qm) (b : Nat) (x : Int) (h : Srv w base sb ja jl jn qa ql qn js qs) (hl : js.length ≤ 1000) (hb : w.cell? ⟨b, 0, none⟩ = some (.int .i64 x)) :
    Calls Tryd.prog 73 #[.slice ja jl jn, .func (.func 74) #[] #[.pointer (some ⟨b, 0, none⟩)]] w fun e w' => (∃ z, e = .returned (.int .i64 z) ∧ Ix js.length z) ∧ Chg [] w w' := by
  have H := Lib.hid (fun W (hc : Chg [] w W) => h.new hc)
  have HB := Lib.hid (fun W (hc : Chg [] w W) => (hc.cell (lt_of_cell hb) (by simp)).trans hb)
  have HJ := Lib.hid h.jl
  have hjl : jl ≤ 1000 := by rw [h.jl]; exact hl
  clear h hb
  go_enter Tryd.func73, Tryd.ntmps73
  go_wp2_with fail
  go_loopw [8] (fun i wr => ∃ n : Nat, n ≤ jl ∧ i = .int .i64 (n : Nat) ∧ Hid (Chg [] w wr)) (fun i _ => jl - (intOf i).toNat)
  case atStart => exact ⟨0, by omega, rfl, Lib.hid (Chg.refl _ _)⟩
  case round =>
    obtain ⟨n, hn, rfl, Hcw⟩ := hrel
    by_cases hlt : n < jl
    · obtain ⟨g, rfl, _, lg, q0, q1, q2, hcap⟩ := (H.out wr Hcw.out).job (i := n) (by have := HJ.out; omega)
      generalize js[n]'(by have := HJ.out; omega) = j at q0 q1 q2
      obtain ⟨j0, j1, j2⟩ := j
      simp only at q0 q1 q2
      have hn1 : (n : Int) < jl := by omega
      have hn0 : (0 : Int) ≤ (n : Int) := by omega
      have Hcall := Lib.hid (findClo_any j0 x j1 j2 b wr (HB.out wr Hcw.out))
      go_wp2_with fail
      refine Hcall.out.mono ?_
      rintro e w1 ⟨⟨r, rfl⟩, hc1⟩
      have H1 := Lib.hid (Hcw.out.trans hc1)
      clear hc1 q0 q1 q2 lg
      cases r
      · go_wp2_with fail
        exact ⟨⟨n + 1, by omega, by go_num, H1⟩, by simp [intOf]; omega⟩
      · go_wp2_with fail
        go_ret
        exact ⟨⟨_, rfl, Or.inr ⟨n, rfl, by have := HJ.out; omega⟩⟩, H1.out⟩
    · obtain rfl : n = jl := by omega
      have hn1 : ¬ ((n : Int) < n) := by omega
      go_wp2_with fail
      go_ret
      exact ⟨⟨_, rfl, Or.inl rfl⟩, Hcw.out⟩
set_option maxHeartbeats 4000000 in
theorem find_any (w : World) (base : Bs) (sb jl jn ql qn : Nat) (ja qa : Option Addr) (js : List Jb) (qs : List Qm) (x : Int) (h : Srv w base sb ja jl jn qa ql qn js qs) (hl : js.length ≤ 1000) :
    Calls Tryd.prog 59 #[.pointer (some ⟨sb, 0, none⟩), .int .i64 x] w fun e w' => (∃ z, e = .returned (.int .i64 z) ∧ Ix js.length z) ∧ Chg [] w w' := by
  obtain ⟨w1, hw1⟩ : ∃ y, y = w.alloc (.cells #[.int .i64 x] 3) := ⟨_, rfl⟩
  obtain ⟨b, hb⟩ : ∃ y, y = w.heap.size := ⟨_, rfl⟩
  have hc1 : Chg [] w w1 := by rw [hw1]; exact (Chg.refl _ _).alloc _
  have hb1 : w1.heap[b]? = some (.cells #[.int .i64 x] 3 (0, 0)) := by rw [hw1, hb]; exact heap_at _ _ _ rfl
  have H1 := Lib.hid (h.new hc1)
  have Hi := Lib.hid (findIx_any w1 base sb jl jn ql qn ja qa js qs b x H1.out hl (cell_of_heap hb1 rfl))
  have Hc1 := Lib.hid hc1
  have c0 := H1.out.c0
  have lb := lt_of_cell c0
  clear h hc1 hb1
  go_enter Tryd.func59, Tryd.ntmps59
  go_upto_region 1 with fail
  rw [← hw1, ← hb]
  clear hw1 hb
  go_wp2_with fail
  refine Hi.out.mono ?_
  rintro e w2 ⟨⟨z, rfl, hz⟩, hc2⟩
  have Hc2 := Lib.hid (Hc1.out.trans hc2)
  have Hz := Lib.hid hz
  clear hc2 hz
  go_wp2_with fail
  go_ret
  exact ⟨⟨z, rfl, Hz.out⟩, Hc2.out⟩
/-- what check answers -/
def ckE (js : List Jb) (i : Int) : Int := if i < 0 ∨ (js.length : Int) ≤ i then 5 else if (js.getD i.toNat (0, false, false)).2.1 = false then 8 else 0
set_option maxHeartbeats 4000000 in
theorem check_any (w : World) (base : Bs) (sb jl jn ql qn : Nat) (ja qa : Option Addr) (js : List Jb) (qs : List Qm) (i : Int) (h : Srv w base sb ja jl jn qa ql qn js qs) (hl : js.length ≤ 1000) :
    Calls Tryd.prog 42 #[.pointer (some ⟨sb, 0, none⟩), .int .i64 i] w fun e w' => e = .returned (.int .i64 (ckE js i)) ∧ w' = w := by
  have c0 := h.c0
  have lb := lt_of_cell c0
  have hjl := h.jl
  by_cases hi : i < 0
  · have hd : decide (i < 0) = true := decide_eq_true hi
    have HE := Lib.hid (show ckE js i = 5 by unfold ckE; rw [if_pos (Or.inl hi)])
    clear h hjl
    go_enter Tryd.func42, Tryd.ntmps42
    go_wp2_with fail
    go_ret
    exact ⟨by rw [HE.out]; rfl, rfl⟩
  by_cases hi2 : (jl : Int) ≤ i
  · have hd : decide (i < 0) = false := decide_eq_false hi
    have hd2 : decide ((jl : Int) ≤ i) = true := decide_eq_true hi2
    have HE := Lib.hid (show ckE js i = 5 by unfold ckE; rw [if_pos (Or.inr (by omega))])
    clear h hjl
    go_enter Tryd.func42, Tryd.ntmps42
    go_wp2_with fail
    go_ret
    exact ⟨by rw [HE.out]; rfl, rfl⟩
  obtain ⟨n, rfl⟩ : ∃ n : Nat, i = n := ⟨i.toNat, by omega⟩
  have hn : n < js.length := by omega
  obtain ⟨g, rfl, _, lg, q0, q1, q2, hcap⟩ := h.job hn
  have hd2 : decide ((jl : Int) ≤ (n : Int)) = false := decide_eq_false hi2
  have hn1 : (n : Int) < jl := by omega
  have hn0 : (0 : Int) ≤ (n : Int) := by omega
  have HE : Hid (ckE js (n : Nat) = if js[n].2.1 = false then 8 else 0) := Lib.hid (by
    unfold ckE
    rw [if_neg (by omega), Int.toNat_natCast, List.getD_eq_getElem?_getD, List.getElem?_eq_getElem hn]
    rfl)
  generalize js[n] = j at q0 q1 q2 HE
  obtain ⟨j0, j1, j2⟩ := j
  simp only at q0 q1 q2 HE
  clear h hjl
  cases j1
  · go_enter Tryd.func42, Tryd.ntmps42
    go_wp2_with fail
    go_ret
    exact ⟨by rw [HE.out]; rfl, rfl⟩
  · go_enter Tryd.func42, Tryd.ntmps42
    go_wp2_with fail
    go_ret
    exact ⟨by rw [HE.out]; rfl, rfl⟩
/-- the pending jobs -/
def pendF : Nat → List Jb → List Int
  | _, [] => []
  | i, j :: js => if j.2.1 then (i : Int) :: pendF (i + 1) js else pendF (i + 1) js
end Go.Proofs.YtiklgipcgdgkoaaDoor.Jv
