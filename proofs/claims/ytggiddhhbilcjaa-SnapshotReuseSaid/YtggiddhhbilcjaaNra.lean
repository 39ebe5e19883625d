/- The reference's Contains and Clone at ints. -/
import Derived.Test.YtggiddhhbilcjaaGc
import Derived.Test.YtggiddhhbilcjaaGb
namespace Go.Proofs.Ytggiddhhbilcjaa
open Go.RowKit Go.ChangeMaps Go.MapKept
set_option linter.unusedVariables false
def isInt (x y : Int) : Bool := decide (x = y)
theorem refIndex_any (p : Nat → Prop) (w : World) (v : Value) (xs : List Int) (x : Int) (hx : IntsP p w v xs) :
    Calls Try.prog 68 #[v, .int .i64 x] w fun e w' => e = .returned (.int .i64 (fidx (isInt x) xs)) ∧ w = w' := by
  obtain ⟨a, cap, rfl, hm, hc⟩ := hx.shape
  have Hx := Lib.hid hx
  clear hx
  unfold maxLen at hm
  go_enter Try.func68, Try.ntmps68
  go_wp2
  go_loop [9] (fun i => ∃ n : Nat, n ≤ xs.length ∧ i = .int .i64 (n : Nat) ∧ (∀ y ∈ xs.take n, isInt x y = false)) (fun i => xs.length - (intOf i).toNat)
  case atStart => exact ⟨0, by omega, rfl, by simp⟩
  case round =>
    obtain ⟨n, hn, rfl, hnot⟩ := hrel
    have Hnot := Lib.hid hnot
    clear hnot
    by_cases hlt : n < xs.length
    · obtain ⟨g, off, rfl, _, q0⟩ := Hx.out.cell n hlt
      obtain ⟨y, hy⟩ : ∃ y, xs.getD n 0 = y := ⟨_, rfl⟩
      rw [hy] at q0
      have Hy := Lib.hid hy
      have lg := lt_of_cell q0
      have hn1 : (n : Int) < xs.length := by omega
      clear hy
      by_cases he : x = y
      · subst he
        have hf := fidx_some (isInt x) xs n hlt 0 Hnot.out (by rw [Hy.out]; exact decide_eq_true rfl)
        have Hf := Lib.hid hf
        clear hf
        go_wp2
        go_ret
        exact ⟨by rw [Hf.out]; rfl, rfl⟩
      · have hb : (x == y) = false := beq_eq_false_iff_ne.2 he
        have Hne := Lib.hid (show isInt x y = false from decide_eq_false he)
        have He := Lib.hid he
        clear he
        go_wp2
        exact ⟨⟨n + 1, by omega, by go_num, memTake hlt 0 Hnot.out (by rw [Hy.out]; exact Hne.out)⟩, by simp [intOf]; omega⟩
    · obtain rfl : n = xs.length := by omega
      have hf := fidx_none (isInt x) xs (by have := Hnot.out; rw [List.take_length] at this; exact this)
      have Hf := Lib.hid hf
      clear hf
      go_wp2
      go_ret
      exact ⟨by rw [Hf.out]; rfl, rfl⟩
theorem refContains_any (p : Nat → Prop) (w : World) (v : Value) (xs : List Int) (x : Int) (hx : IntsP p w v xs) :
    Calls Try.prog 44 #[v, .int .i64 x] w fun e w' => e = .returned (.bool (decide (x ∈ xs))) ∧ w = w' := by
  have hd := fidx_any (isInt x) xs
  have ha : xs.any (isInt x) = decide (x ∈ xs) := by
    rw [Bool.eq_iff_iff]
    simp [isInt]
  rw [ha] at hd
  have Hd := Lib.hid hd
  have Hx := Lib.hid hx
  clear hd ha hx
  go_enter Try.func44, Try.ntmps44
  go_wp2_with fail
  refine (refIndex_any p _ v xs x Hx.out).mono ?_
  rintro e w1 ⟨rfl, rfl⟩
  generalize fidx (isInt x) xs = z at Hd
  by_cases hz : 0 ≤ z
  · have hzd : decide (0 ≤ z) = true := by simpa using hz
    have Hany := Lib.hid (show decide (x ∈ xs) = true by rw [← Hd.out]; exact hzd)
    go_wp2
    go_ret
    exact ⟨by rw [Hany.out]; rfl, rfl⟩
  · have hzd : decide (0 ≤ z) = false := by simpa using hz
    have Hany := Lib.hid (show decide (x ∈ xs) = false by rw [← Hd.out]; exact hzd)
    go_wp2
    go_ret
    exact ⟨by rw [Hany.out]; rfl, rfl⟩
/-- Clone at ints, at a slice that is not empty -/
theorem cloneInts_any (p : Nat → Prop) (w : World) (v : Value) (xs : List Int) (h0 : 0 < xs.length) (hl : xs.length ≤ 1000000) (hx : IntsP p w v xs) :
    Calls Try.prog 30 #[v] w fun e w' => ∃ v', e = .returned v' ∧ w'.ownsRow w.heap.size 3 1 v' xs.length (xs.map (Value.int .i64)) ∧ Chg [] w w' := by
  obtain ⟨i0, hi0, hz0, hz1, hz2⟩ := info_parts Try.infoIntQ
  have Hi0 := Lib.hid hi0
  have Hz0 := Lib.hid hz0
  have Hz1 := Lib.hid hz1
  have Hz2 := Lib.hid hz2
  obtain ⟨a, cap, rfl, hm, hc⟩ := hx.shape
  obtain ⟨g, off, rfl, _, _⟩ := hx.cell 0 h0
  have hnews : ∀ j u, (xs.map (Value.int .i64))[j]? = some u → w.cell? ((⟨g, off, none⟩ : Addr).add j) = some u := by
    intro j u hj
    have hjx : j < xs.length := by simpa using (List.getElem?_eq_some_iff.1 hj).1
    obtain ⟨g', off', he, _, hcell⟩ := hx.cell j hjx
    simp only [Option.some.injEq, Addr.mk.injEq, and_true] at he
    obtain ⟨rfl, rfl⟩ := he
    rw [Addr.add_lit, hcell]
    simp only [List.getElem?_map, List.getElem?_eq_getElem hjx, Option.map_some, Option.some.injEq] at hj
    rw [← hj, List.getD_eq_getElem?_getD, List.getElem?_eq_getElem hjx]; rfl
  have Hnews := Lib.hid hnews
  clear hi0 hz0 hz1 hz2 hx hnews
  go_enter Try.func30, Try.ntmps30
  go_wp2_with (at_builtin; refine wpList_append_own_at _ rfl _ _ 37 rfl w.heap.size 3 i0 (.int .i64 0) 1 8 Try.underlying37 Hi0.out Hz0.out Hz1.out Hz2.out rfl (by decide) (.slice none 0 0) 0 [] rfl (World.ownsRow_nil _ _ _ _) ⟨g, off, none⟩ xs.length cap (xs.map (Value.int .i64)) rfl (by simp) Hnews.out (by intro u hu; obtain ⟨y, _, rfl⟩ := List.mem_map.1 hu; rfl) (by omega) (by omega) (Nat.le_refl _) ?_; intro v8 w8 hown8 hgr8 hnil8 hat8; have Hown8 := Lib.hid hown8; have Hgr8 := Lib.hid hgr8; clear hown8 hgr8 hnil8 hat8)
  go_ret
  refine ⟨v8, rfl, ?_, (Chg.refl [] w).grown Hgr8.out (fun k h => by simp [Value.ownBlock] at h)⟩
  have := Hown8.out
  rw [Nat.zero_add, List.nil_append] at this
  exact this
theorem intsP_of_row {w : World} {base : Nat} {v : Value} {xs : List Int} (h : w.ownsRow base 3 1 v xs.length (xs.map (Value.int .i64))) : IntsP (fun g => base ≤ g ∧ g < w.heap.size) w v xs := by
  rcases h.2 with ⟨rfl, h0⟩ | ⟨g, cap, cur, rfl, h1, h2, h3, h4, h5, h6⟩
  · obtain rfl : xs = [] := List.eq_nil_of_length_eq_zero h0
    exact SlR.nil _ _ _ _
  · have hc := h.cells (g := g) rfl
    refine ⟨_, _, rfl, h3, h4, fun _ => ⟨g, 0, rfl, ⟨h1, lt_of_obj h2⟩, fun j hj => ?_⟩⟩
    have := hc j (.int .i64 xs[j]) (by rw [List.getElem?_map, List.getElem?_eq_getElem hj]; rfl)
    rw [Addr.add_lit] at this
    rw [Nat.mul_one]
    exact this
end Go.Proofs.Ytggiddhhbilcjaa
