/- The reference's Contains at ints, inputKey, Equal at keys, Clone at ints. -/
import Derived.Test.YtipipklgjcjnoaaQryN
import Derived.Test.YtipipklgjcjnoaaQryJ
namespace Go.Proofs.Ytipipklgjcjnoaa
open Go.RowKit Go.ChangeMaps Go.MapKept
set_option linter.unusedVariables false
def isInt (x y : Int) : Bool := decide (x = y)
theorem refIndex_any (p : Nat → Prop) (w : World) (v : Value) (xs : List Int) (x : Int) (hx : IntsP p w v xs) :
    Calls Try.prog 27 #[v, .int .i64 x] w fun e w' => e = .returned (.int .i64 (fidx (isInt x) xs)) ∧ w = w' := by
  obtain ⟨a, cap, rfl, hm, hc⟩ := hx.shape
  have Hx := Lib.hid hx
  clear hx
  unfold maxLen at hm
  go_enter Try.func27, Try.ntmps27
  go_wp2
  go_loop [9] (fun i => ∃ n : Nat, n ≤ xs.length ∧ i = .int .i64 (n : Nat) ∧ (∀ y ∈ xs.take n, isInt x y = false)) (fun i => xs.length - (intOf i).toNat)
  case atStart => exact ⟨0, by omega, rfl, by simp⟩
  case round =>
    obtain ⟨n, hn, rfl, hnot⟩ := hrel
    have Hnot := Lib.hid hnot
    clear hnot
    by_cases hlt : n < xs.length
    · obtain ⟨g, off, rfl, _, q0⟩ := Hx.out.cell n hlt
      obtain ⟨y, hy⟩ : ∃ y, xs.getD n 0 = y := ⟨_, rfl⟩
      rw [hy] at q0
      have Hy := Lib.hid hy
      have lg := lt_of_cell q0
      have hn1 : (n : Int) < xs.length := by omega
      clear hy
      by_cases he : x = y
      · subst he
        have hf := fidx_some (isInt x) xs n hlt 0 Hnot.out (by rw [Hy.out]; exact decide_eq_true rfl)
        have Hf := Lib.hid hf
        clear hf
        go_wp2
        go_ret
        exact ⟨by rw [Hf.out]; rfl, rfl⟩
      · have hb : (x == y) = false := beq_eq_false_iff_ne.2 he
        have Hne := Lib.hid (show isInt x y = false from decide_eq_false he)
        have He := Lib.hid he
        clear he
        go_wp2
        exact ⟨⟨n + 1, by omega, by go_num, memTake hlt 0 Hnot.out (by rw [Hy.out]; exact Hne.out)⟩, by simp [intOf]; omega⟩
    · obtain rfl : n = xs.length := by omega
      have hf := fidx_none (isInt x) xs (by have := Hnot.out; rw [List.take_length] at this; exact this)
      have Hf := Lib.hid hf
      clear hf
      go_wp2
      go_ret
      exact ⟨by rw [Hf.out]; rfl, rfl⟩
theorem refContains_any (p : Nat → Prop) (w : World) (v : Value) (xs : List Int) (x : Int) (hx : IntsP p w v xs) :
    Calls Try.prog 19 #[v, .int .i64 x] w fun e w' => e = .returned (.bool (decide (x ∈ xs))) ∧ w = w' := by
  have hd := fidx_any (isInt x) xs
  have ha : xs.any (isInt x) = decide (x ∈ xs) := by
    rw [Bool.eq_iff_iff]
    simp [isInt]
  rw [ha] at hd
  have Hd := Lib.hid hd
  have Hx := Lib.hid hx
  clear hd ha hx
  go_enter Try.func19, Try.ntmps19
  go_wp2_with fail
  refine (refIndex_any p _ v xs x Hx.out).mono ?_
  rintro e w1 ⟨rfl, rfl⟩
  generalize fidx (isInt x) xs = z at Hd
  by_cases hz : 0 ≤ z
  · have hzd : decide (0 ≤ z) = true := by simpa using hz
    have Hany := Lib.hid (show decide (x ∈ xs) = true by rw [← Hd.out]; exact hzd)
    go_wp2
    go_ret
    exact ⟨by rw [Hany.out]; rfl, rfl⟩
  · have hzd : decide (0 ≤ z) = false := by simpa using hz
    have Hany := Lib.hid (show decide (x ∈ xs) = false by rw [← Hd.out]; exact hzd)
    go_wp2
    go_ret
    exact ⟨by rw [Hany.out]; rfl, rfl⟩
theorem inputKey_any (n : Int) (w : World) :
    Calls Try.prog 18 #[.int .i64 n] w fun e w' => e = .returned (.agg #[.int .i64 0, .int .i64 n, .int .i64 0]) ∧ Chg [] w w' := by
  go_enter Try.func18, Try.ntmps18
  go_wp2
  exact bodyPost_ret (v := .agg #[.int .i64 0, .int .i64 n, .int .i64 0]) (by simp [results, Try.results18, go_sem]) rfl ⟨rfl, (Chg.refl [] w).alloc _⟩
set_option maxHeartbeats 1000000 in
theorem keysEqual_yes (p q : Nat → Prop) (w : World) (v u : Value) (ks : List I3) (h1 : I3s p w v ks) (h2 : I3s q w u ks) :
    Calls Try.prog 14 #[v, u] w fun e w' => e = .returned (.bool true) ∧ Chg [] w w' := by
  obtain ⟨a, cap, rfl, hm, hc⟩ := h1.shape
  obtain ⟨b, capb, rfl, hmb, hcb⟩ := h2.shape
  have H1 := Lib.hid h1
  have H2 := Lib.hid h2
  clear h1 h2
  unfold maxLen at hm
  have hgd := key_guard
  have hnn : ((ks.length : Int) != (ks.length : Int)) = false := by simp
  go_enter Try.func14, Try.ntmps14
  go_wp2
  go_loopw [14] (fun i wr => ∃ n : Nat, n ≤ ks.length ∧ i = .int .i64 (n : Nat) ∧ Chg [] w wr) (fun i _ => ks.length - (intOf i).toNat)
  case atStart => exact ⟨0, by omega, rfl, Chg.refl _ _⟩
  case round =>
    obtain ⟨n, hn, rfl, hcw⟩ := hrel
    have Hcw := Lib.hid hcw
    clear hcw
    by_cases hlt : n < ks.length
    · obtain ⟨g, off, rfl, _, q0, q1, q2⟩ := SlR.at (H1.out.kept (Hcw.out.p (S := fun _ => False)) (fun _ _ h => h)) n hlt (0, 0, 0)
      obtain ⟨g', off', rfl, _, r0, r1, r2⟩ := SlR.at (H2.out.kept (Hcw.out.p (S := fun _ => False)) (fun _ _ h => h)) n hlt (0, 0, 0)
      generalize ks.getD n (0, 0, 0) = x at q0 q1 q2 r0 r1 r2
      obtain ⟨x1, x2, x3⟩ := x
      simp only at q0 q1 q2 r0 r1 r2
      have lg := lt_of_cell q0
      have lg' := lt_of_cell r0
      have hn1 : (n : Int) < ks.length := by omega
      have hn0 : (0 : Int) ≤ (n : Int) := by omega
      have hq := key_neq x1 x2 x3 x1 x2 x3
      rw [decide_eq_true ⟨rfl, rfl, rfl⟩] at hq
      go_wp2
      go_region
      all_goals
        go_wp2
        exact ⟨⟨n + 1, by omega, by go_num, (Hcw.out.alloc _).drew⟩, by simp [intOf]; omega⟩
    · obtain rfl : n = ks.length := by omega
      go_wp2
      go_ret
      exact ⟨rfl, Hcw.out⟩
/-- Clone at ints, at a slice that is not empty -/
theorem cloneInts_any (p : Nat → Prop) (w : World) (v : Value) (xs : List Int) (h0 : 0 < xs.length) (hl : xs.length ≤ 1000000) (hx : IntsP p w v xs) :
    Calls Try.prog 12 #[v] w fun e w' => ∃ v', e = .returned v' ∧ w'.ownsRow w.heap.size 3 1 v' xs.length (xs.map (Value.int .i64)) ∧ Chg [] w w' := by
  obtain ⟨i0, hi0, hz0, hz1, hz2⟩ := info_parts Try.infoIntQ
  have Hi0 := Lib.hid hi0
  have Hz0 := Lib.hid hz0
  have Hz1 := Lib.hid hz1
  have Hz2 := Lib.hid hz2
  obtain ⟨a, cap, rfl, hm, hc⟩ := hx.shape
  obtain ⟨g, off, rfl, _, _⟩ := hx.cell 0 h0
  have hnews : ∀ j u, (xs.map (Value.int .i64))[j]? = some u → w.cell? ((⟨g, off, none⟩ : Addr).add j) = some u := by
    intro j u hj
    have hjx : j < xs.length := by simpa using (List.getElem?_eq_some_iff.1 hj).1
    obtain ⟨g', off', he, _, hcell⟩ := hx.cell j hjx
    simp only [Option.some.injEq, Addr.mk.injEq, and_true] at he
    obtain ⟨rfl, rfl⟩ := he
    rw [Addr.add_lit, hcell]
    simp only [List.getElem?_map, List.getElem?_eq_getElem hjx, Option.map_some, Option.some.injEq] at hj
    rw [← hj, List.getD_eq_getElem?_getD, List.getElem?_eq_getElem hjx]; rfl
  have Hnews := Lib.hid hnews
  clear hi0 hz0 hz1 hz2 hx hnews
  go_enter Try.func12, Try.ntmps12
  go_wp2_with (at_builtin; refine wpList_append_own_at _ rfl _ _ 25 rfl w.heap.size 3 i0 (.int .i64 0) 1 8 Try.underlying25 Hi0.out Hz0.out Hz1.out Hz2.out rfl (by decide) (.slice none 0 0) 0 [] rfl (World.ownsRow_nil _ _ _ _) ⟨g, off, none⟩ xs.length cap (xs.map (Value.int .i64)) rfl (by simp) Hnews.out (by intro u hu; obtain ⟨y, _, rfl⟩ := List.mem_map.1 hu; rfl) (by omega) (by omega) (Nat.le_refl _) ?_; intro v8 w8 hown8 hgr8 hnil8 hat8; have Hown8 := Lib.hid hown8; have Hgr8 := Lib.hid hgr8; clear hown8 hgr8 hnil8 hat8)
  go_ret
  refine ⟨v8, rfl, ?_, (Chg.refl [] w).grown Hgr8.out (fun k h => by simp [Value.ownBlock] at h)⟩
  have := Hown8.out
  rw [Nat.zero_add, List.nil_append] at this
  exact this
end Go.Proofs.Ytipipklgjcjnoaa
