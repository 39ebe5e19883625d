/- Dependencies; equality of slices of keys. -/
import Derived.Test.YtdeodcomlakpaaaGj
import Derived.Test.YtdeodcomlakpaaaKeyEq
import Derived.Test.YtdeodcomlakpaaaGh
namespace Go.Proofs.Ytdeodcomlakpaaa
open Go.RowKit Go.ChangeMaps Go.MapKept
set_option linter.unusedVariables false
set_option linter.unusedSimpArgs false
def DepsPost (d : Dm) (key : QK) (w : World) (e : Ending) (w' : World) : Prop :=
  ∃ v, e = .returned (.tuple #[v, .bool (aget d.pl.es key).isSome]) ∧ Chg [] w w' ∧ match aget d.pl.es key with
    | some r => I3s (fun g => w.heap.size ≤ g ∧ g < w'.heap.size) w' v r.deps
    | none => v = .slice none 0 0
theorem DepsPost.no {d : Dm} {key : QK} {w w' : World} (h : aget d.pl.es key = none) (hc : Chg [] w w') : DepsPost d key w (.returned (.tuple #[.slice none 0 0, .bool false])) w' := by
  unfold DepsPost
  rw [h]
  exact ⟨_, rfl, hc, rfl⟩
theorem DepsPost.yes {d : Dm} {key : QK} {w w' : World} {r : RV} {v : Value} (h : aget d.pl.es key = some r) (hc : Chg [] w w') (hi : I3s (fun g => w.heap.size ≤ g ∧ g < w'.heap.size) w' v r.deps) : DepsPost d key w (.returned (.tuple #[v, .bool true])) w' := by
  unfold DepsPost
  rw [h]
  exact ⟨_, rfl, hc, hi⟩
set_option maxRecDepth 100000 in
set_option maxHeartbeats 4000000 in
theorem dependencies_any (w : World) (b : Nat) (d : Dm) (key : QK) (h : DmAt w b d) (hk : Inp.QKok key) (hl : ∀ r, aget d.pl.es key = some r → r.deps.length ≤ 1000) :
    Calls Try.prog 45 #[.pointer (some ⟨b, 0, none⟩), i3v key] w (DepsPost d key w) := by
  rw [Dm.aget_pl] at hl
  obtain ⟨k1, k2, k3⟩ := key
  obtain ⟨wa, hwa⟩ : ∃ x, x = w.alloc (.cells #[.int .i64 k1, .int .i64 k2, .int .i64 k3] 27) := ⟨_, rfl⟩
  have hca : Chg [] w wa := by rw [hwa]; exact (Chg.refl [] w).alloc _
  have hkb : wa.heap[w.heap.size]? = some (.cells #[.int .i64 k1, .int .i64 k2, .int .i64 k3] 27 (0, 0)) := by rw [hwa]; exact heap_at _ _ _ rfl
  have Ha := Lib.hid (h.new hca)
  have Hkey := Lib.hid hk
  have Hl := Lib.hid hl
  have q2 : wa.cell? ⟨b, 2, none⟩ = some (.map (some d.br)) := cell_of_heap Ha.out.blk rfl
  have e0 : wa.cell? ⟨w.heap.size, 0, none⟩ = some (.int .i64 k1) := cell_of_heap hkb rfl
  have e1 : wa.cell? ⟨w.heap.size, 1, none⟩ = some (.int .i64 k2) := cell_of_heap hkb rfl
  have e2 : wa.cell? ⟨w.heap.size, 2, none⟩ = some (.int .i64 k3) := cell_of_heap hkb rfl
  have Hca := Lib.hid hca
  clear h hk hca hkb hl
  unfold i3v
  go_enter Try.func45, Try.ntmps45
  go_wp2_with fail
  rw [← hwa]
  clear hwa
  refine wp_region_readsQ 6 (by kernel_rfl) (by kernel_rfl) ?_
  intro wd hwd
  simp only [List.take_succ_cons, List.take_zero, List.drop_succ_cons, List.drop_zero]
  have hcd : Chg [] wa wd := by rw [hwd]; exact (Chg.refl _ _).drew
  have q2d := (hcd.cell (lt_of_cell q2) (by simp)).trans q2
  have e0d := (hcd.cell (lt_of_cell e0) (by simp)).trans e0
  have e1d := (hcd.cell (lt_of_cell e1) (by simp)).trans e1
  have e2d := (hcd.cell (lt_of_cell e2) (by simp)).trans e2
  have hlk := (Ha.out.new hcd).res.lookup Inp.qkeyed Inp.qk_inj Try.underlying85 (Inp.qkOk Hkey.out) (ptr_zero wd) false
  rw [aget_amap] at hlk
  simp only [Bool.false_eq_true, if_false] at hlk
  unfold Inp.qk at hlk
  have Hd := Lib.hid (Ha.out.new hcd)
  have Hcd := Lib.hid (Hca.out.trans hcd)
  clear hwd hcd q2 e0 e1 e2
  cases hold : aget d.es (k1, k2, k3) with
  | none =>
    rw [hold] at hlk
    simp only [Option.map_none, Option.getD_none] at hlk
    have Hold := Lib.hid hold
    clear hold
    repeat go_big_quiet_step (fail)
    refine wpQuiet_nil ?_
    go_wp2_with fail
    go_ret2
    exact DepsPost.no (by rw [Dm.aget_pl, Hold.out]; rfl) Hcd.out
  | some r =>
    rw [hold] at hlk
    simp only [Option.map_some, Option.getD_some] at hlk
    unfold Rs.val at hlk
    have Hold := Lib.hid hold
    clear hold
    repeat go_big_quiet_step (fail)
    refine wpQuiet_nil ?_
    have u1 : wd.cell? ⟨r.blk, 4, none⟩ = some (.int .i64 r.dur) := cell_of_heap (Hd.out.rs Hold.out).blk rfl
    have u2 : wd.cell? ⟨r.blk, 5, none⟩ = some (.slice r.da r.deps.length r.dcap) := cell_of_heap (Hd.out.rs Hold.out).blk rfl
    go_wp2_with fail
    refine (keysClone_any _ wd _ r.deps (Hd.out.rs Hold.out).deps (Hl.out r.pl (by rw [Hold.out]; rfl))).mono ?_
    rintro e w2 ⟨v, rfl, hi, hc⟩
    have Hi := Lib.hid (And.intro hi hc)
    clear hi hc
    go_wp2_with fail
    go_ret2
    exact DepsPost.yes (r := r.pl) (by rw [Dm.aget_pl, Hold.out]; rfl) (Hcd.out.trans Hi.out.2) (Hi.out.1.imp fun g hg => ⟨Nat.le_trans Hcd.out.size hg.1, hg.2⟩)
theorem take_stepK {xs ys : List QK} {k : Nat} (hk : k < xs.length) (hl : ys.length = xs.length) (h : xs.take k = ys.take k) (he : xs.getD k (0, 0, 0) = ys.getD k (0, 0, 0)) : xs.take (k + 1) = ys.take (k + 1) := by
  have hk' : k < ys.length := by omega
  rw [List.take_succ_eq_append_getElem hk, List.take_succ_eq_append_getElem hk', h]
  simp only [List.getD_eq_getElem?_getD, List.getElem?_eq_getElem hk, List.getElem?_eq_getElem hk', Option.getD_some] at he
  rw [he]
set_option maxHeartbeats 4000000 in
theorem equalKeys_any (w : World) (p1 p2 : Nat → Prop) (v1 v2 : Value) (xs ys : List QK) (h1 : I3s p1 w v1 xs) (h2 : I3s p2 w v2 ys) :
    Calls Try.prog 43 #[v1, v2] w fun e w' => e = .returned (.bool (decide (xs = ys))) ∧ Chg [] w w' := by
  obtain ⟨a1, c1, rfl, hm, hmc⟩ := h1.shape
  obtain ⟨a2, c2, rfl, hm2, hmc2⟩ := h2.shape
  unfold maxLen at hm hm2
  by_cases hl : xs.length = ys.length
  · have hl1 : (xs.length : Int) = ys.length := by omega
    have H1 := Lib.hid h1
    have H2 := Lib.hid h2
    have Hl := Lib.hid hl
    clear h1 h2 hl
    go_enter Try.func43, Try.ntmps43
    go_wp2
    go_loopw [14] (fun i wr => ∃ k : Nat, k ≤ xs.length ∧ i = .int .i64 (k : Nat) ∧ Chg [] w wr ∧ xs.take k = ys.take k) (fun i _ => xs.length - (intOf i).toNat)
    case atStart => exact ⟨0, by omega, rfl, Chg.refl _ _, rfl⟩
    case round =>
      obtain ⟨k, hk, rfl, hcw, ht⟩ := hrel
      have Ht := Lib.hid ht
      have Hcw := Lib.hid hcw
      clear ht hcw
      by_cases hlt : k < xs.length
      · have hlt2 : k < ys.length := by have := Hl.out; omega
        have hk1 : (k : Int) < xs.length := by omega
        have hk2 : (k : Int) < ys.length := by omega
        obtain ⟨g1, o1, rfl, _, q0, q1, q2⟩ := SlR.at H1.out k hlt (0, 0, 0)
        obtain ⟨g2, o2, rfl, _, z0, z1, z2⟩ := SlR.at H2.out k hlt2 (0, 0, 0)
        replace q0 := (Hcw.out.cell (lt_of_cell q0) (by simp)).trans q0
        replace q1 := (Hcw.out.cell (lt_of_cell q1) (by simp)).trans q1
        replace q2 := (Hcw.out.cell (lt_of_cell q2) (by simp)).trans q2
        replace z0 := (Hcw.out.cell (lt_of_cell z0) (by simp)).trans z0
        replace z1 := (Hcw.out.cell (lt_of_cell z1) (by simp)).trans z1
        replace z2 := (Hcw.out.cell (lt_of_cell z2) (by simp)).trans z2
        have l1 : g1 < wr.heap.size := lt_of_cell q0
        have l2 : g2 < wr.heap.size := lt_of_cell z0
        have l11 : g1 < wr.heap.size + 1 := by omega
        have l21 : g2 < wr.heap.size + 1 := by omega
        obtain ⟨x, hx⟩ : ∃ x, xs.getD k (0, 0, 0) = x := ⟨_, rfl⟩
        obtain ⟨y, hy⟩ : ∃ y, ys.getD k (0, 0, 0) = y := ⟨_, rfl⟩
        rw [hx] at q0 q1 q2
        rw [hy] at z0 z1 z2
        obtain ⟨x1, x2, x3⟩ := x
        obtain ⟨y1, y2, y3⟩ := y
        simp only at q0 q1 q2 z0 z1 z2
        have Hx := Lib.hid hx
        have Hy := Lib.hid hy
        clear hx hy
        have hneq := fun w : World => key_neq x1 x2 x3 y1 y2 y3 w
        have hgd := key_guard
        by_cases he : x1 = y1 ∧ x2 = y2 ∧ x3 = y3
        · have hdt : decide (x1 = y1 ∧ x2 = y2 ∧ x3 = y3) = true := decide_eq_true he
          simp only [hdt] at hneq
          have He := Lib.hid he
          clear he hdt
          go_wp2_with fail
          go_region
          all_goals
            go_wp2_with fail
            go_roundw
            case rel => exact ⟨k + 1, by omega, by go_num, (Hcw.out.alloc _).drew, take_stepK hlt Hl.out.symm Ht.out (by rw [Hx.out, Hy.out, He.out.1, He.out.2.1, He.out.2.2])⟩
            case measure => simp [intOf]; omega
        · have hdt : decide (x1 = y1 ∧ x2 = y2 ∧ x3 = y3) = false := decide_eq_false he
          simp only [hdt] at hneq
          have He := Lib.hid he
          clear he hdt
          go_wp2_with fail
          go_region
          all_goals
            go_wp2_with fail
            go_ret
            refine ⟨ret_bool (decide_eq_false (fun e => He.out ?_)).symm, (Hcw.out.alloc _).drew⟩
            have h3 := Hx.out.symm.trans ((by rw [e] : xs.getD k (0, 0, 0) = ys.getD k (0, 0, 0)).trans Hy.out)
            simp only [Prod.mk.injEq] at h3
            exact h3
      · have hk1 : ¬ (k : Int) < xs.length := by omega
        go_wp2
        go_ret
        exact ⟨ret_bool (decide_eq_true (by have h3 := Ht.out; rwa [List.take_of_length_le (by omega), List.take_of_length_le (by have := Hl.out; omega)] at h3)).symm, Hcw.out⟩
  · have hl1 : ((xs.length : Int) != ys.length) = true := by simp; omega
    have Hl := Lib.hid hl
    clear hl h1 h2
    go_enter Try.func43, Try.ntmps43
    go_wp2
    go_ret
    exact ⟨ret_bool (decide_eq_false (fun e => Hl.out (by rw [e]))).symm, Chg.refl _ _⟩
end Go.Proofs.Ytdeodcomlakpaaa
