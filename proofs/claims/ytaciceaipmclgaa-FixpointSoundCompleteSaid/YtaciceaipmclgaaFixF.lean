/- Check: which systems of rules are valid. -/
import Derived.Test.YtaciceaipmclgaaFixE
namespace Go.Proofs.Ytaciceaipmclgaa
open Go.RowKit
set_option linter.unusedVariables false
/-- the place of the first element of which q holds, or -1 -/
def fidx {α : Type} (q : α → Bool) (l : List α) : Int := match l.findIdx? q with
  | some k => (k : Int)
  | none => -1
theorem fidx_some {α : Type} (q : α → Bool) (l : List α) (k : Nat) (hk : k < l.length) (d : α) (h : ∀ x ∈ l.take k, q x = false) (hq : q (l.getD k d) = true) : fidx q l = (k : Int) := by
  have : l.findIdx? q = some k := by
    rw [List.findIdx?_eq_some_iff_getElem]
    refine ⟨hk, by simpa [hk] using hq, fun j hj => ?_⟩
    have := h (l[j]'(by omega)) (by rw [List.mem_take_iff_getElem]; exact ⟨j, by omega, rfl⟩)
    simp [this]
  simp [fidx, this]
theorem fidx_none {α : Type} (q : α → Bool) (l : List α) (h : ∀ x ∈ l, q x = false) : fidx q l = -1 := by
  have : l.findIdx? q = none := by
    rw [List.findIdx?_eq_none_iff]
    exact h
  simp [fidx, this]
theorem fidx_any {α : Type} (q : α → Bool) (l : List α) : decide (0 ≤ fidx q l) = l.any q := by
  unfold fidx
  cases h : l.findIdx? q with
  | none =>
    rw [List.findIdx?_eq_none_iff] at h
    have : l.any q = false := List.any_eq_false.2 fun x hx => by simp [h x hx]
    rw [this]
    rfl
  | some k =>
    rw [List.findIdx?_eq_some_iff_getElem] at h
    obtain ⟨hk, hq, _⟩ := h
    have : l.any q = true := List.any_eq_true.2 ⟨_, List.getElem_mem hk, hq⟩
    rw [this]
    simp
theorem fidx_ge {α : Type} (q : α → Bool) (l : List α) : -1 ≤ fidx q l := by
  unfold fidx
  split <;> omega
theorem fidx_le {α : Type} (q : α → Bool) (l : List α) : fidx q l ≤ (l.length : Int) := by
  unfold fidx
  split
  · rename_i k h
    rw [List.findIdx?_eq_some_iff_getElem] at h
    obtain ⟨hk, _⟩ := h
    omega
  · omega
/-- a rule that reads too many sets -/
def bigR (r : Rule) : Bool := decide (60 < r.2.length)
theorem check1_any (p : Nat → Prop) (w : World) (r : Rule) (u : Value) (hu : Ints p w u r.2) :
    Calls Try.prog 32 #[.agg #[.int .i64 r.1, u]] w fun e w' => e = .returned (.bool (bigR r)) ∧ Chg [] w w' := by
  obtain ⟨a, cap, rfl, hl1, hl2, _⟩ := hu
  unfold maxLen at hl2
  by_cases h : 60 < r.2.length
  · have hb : bigR r = true := by simp [bigR, h]
    have h' : (60 : Int) < r.2.length := by omega
    go_enter Try.func32, Try.ntmps32
    go_wp2
    go_ret
    exact ⟨rfl, (Chg.refl _ _).alloc _⟩
  · have hb : bigR r = false := by simp [bigR]; omega
    have h' : ¬ (60 : Int) < r.2.length := by omega
    go_enter Try.func32, Try.ntmps32
    go_wp2
    go_ret
    exact ⟨rfl, (Chg.refl _ _).alloc _⟩
set_option maxHeartbeats 1000000 in
theorem idx1_any (p : Nat → Prop) (w : World) (v : Value) (l : List Rule) (hl : RuleL p w v l) :
    Calls Try.prog 39 #[v, .func (.func 32) #[] #[]] w fun e w' => e = .returned (.int .i64 (fidx bigR l)) ∧ Chg [] w w' := by
  obtain ⟨a, cap, rfl, hl1, hl2, hc⟩ := id hl
  have Hl := Lib.hid hl
  clear hl hc
  unfold maxLen at hl2
  go_enter Try.func39, Try.ntmps39
  go_wp2
  go_loopw [8] (fun i wr => ∃ k : Nat, k ≤ l.length ∧ i = .int .i64 (k : Nat) ∧ (∀ r ∈ l.take k, bigR r = false) ∧ Chg [] w wr) (fun i _ => l.length - (intOf i).toNat)
  case atStart => exact ⟨0, by omega, rfl, by simp, Chg.refl _ _⟩
  case round =>
    obtain ⟨k, hk, rfl, hn, hcw⟩ := hrel
    have Hn := Lib.hid hn
    clear hn
    by_cases hlt : k < l.length
    · obtain ⟨g, off, u, rfl, q0, q1, hu⟩ := (Hl.out.kept hcw (by simp)).at k hlt
      have lg := lt_of_cell q0
      obtain ⟨au, capu, rfl⟩ := SlF.shape hu
      have Hu := Lib.hid hu
      clear hu
      obtain ⟨r, hr⟩ : ∃ r, l.getD k (0, []) = r := ⟨_, rfl⟩
      rw [hr] at q0 q1 Hu
      have Hr := Lib.hid hr
      clear hr
      have hk1 : (k : Int) < l.length := by omega
      go_wp2_with fail
      refine (check1_any p _ r _ Hu.out).mono ?_
      rintro e w1 ⟨rfl, c1⟩
      cases hb : bigR r
      · go_wp2
        exact ⟨⟨k + 1, by omega, by go_num, fun x hx => by
          rw [take_snoc l k hlt (0, []), List.mem_append, List.mem_singleton] at hx
          rcases hx with hx | rfl
          · exact Hn.out x hx
          · rw [Hr.out, hb], hcw.trans c1⟩, by simp [intOf]; omega⟩
      · have hf := fidx_some bigR l k hlt (0, []) Hn.out (by rw [Hr.out, hb])
        go_wp2
        go_ret
        exact ⟨by first | (rw [hf]; rfl) | rfl, hcw.trans c1⟩
    · obtain rfl : k = l.length := by omega
      have hf := fidx_none bigR l (by have := Hn.out; rw [List.take_length] at this; exact this)
      go_wp2
      go_ret
      exact ⟨by first | (rw [hf]; rfl) | rfl, hcw⟩
theorem cf1_any (p : Nat → Prop) (w : World) (v : Value) (l : List Rule) (hl : RuleL p w v l) :
    Calls Try.prog 31 #[v, .func (.func 32) #[] #[]] w fun e w' => e = .returned (.bool (l.any bigR)) ∧ Chg [] w w' := by
  have hd := fidx_any bigR l
  have Hd := Lib.hid hd
  clear hd
  go_enter Try.func31, Try.ntmps31
  go_wp2_with fail
  refine (idx1_any p _ v l hl).mono ?_
  rintro e w1 ⟨rfl, c1⟩
  generalize fidx bigR l = z at Hd
  by_cases hz : 0 ≤ z
  · have hany : l.any bigR = true := by rw [← Hd.out]; simpa using hz
    have hzd : decide (0 ≤ z) = true := by simpa using hz
    go_wp2
    go_ret
    exact ⟨by rw [hany]; rfl, c1⟩
  · have hany : l.any bigR = false := by rw [← Hd.out]; simpa using hz
    have hzd : decide (0 ≤ z) = false := by simpa using hz
    go_wp2
    go_ret
    exact ⟨by rw [hany]; rfl, c1⟩
/-- an index that is none -/
def badJ (n : Nat) (j : Int) : Bool := decide (j < 0 ∨ (n : Int) ≤ j)
theorem check2_any (w : World) (n cap : Nat) (a : Option Addr) (c : Addr) (j : Int) (hc : w.cell? c = some (.slice a n cap)) :
    Calls Try.prog 34 #[.int .i64 j, .pointer (some c)] w fun e w' => e = .returned (.bool (badJ n j)) ∧ w' = w := by
  by_cases h0 : j < 0
  · have hb : badJ n j = true := by simp [badJ, h0]
    go_enter Try.func34, Try.ntmps34
    go_wp2
    go_ret
    exact ⟨by first | (rw [hb]; rfl) | rfl, rfl⟩
  · by_cases h1 : (n : Int) ≤ j
    · have hb : badJ n j = true := by simp [badJ, h1]
      go_enter Try.func34, Try.ntmps34
      go_wp2
      go_ret
      exact ⟨by first | (rw [hb]; rfl) | rfl, rfl⟩
    · have hb : badJ n j = false := by simp [badJ, h1, h0]
      go_enter Try.func34, Try.ntmps34
      go_wp2
      go_ret
      exact ⟨by first | (rw [hb]; rfl) | rfl, rfl⟩
set_option maxHeartbeats 1000000 in
theorem idx2_any (p : Nat → Prop) (w : World) (v : Value) (xs : List Int) (n cap : Nat) (a : Option Addr) (c : Addr) (hc : w.cell? c = some (.slice a n cap)) (hl : Ints p w v xs) :
    Calls Try.prog 44 #[v, .func (.func 34) #[] #[.pointer (some c)]] w fun e w' => e = .returned (.int .i64 (fidx (badJ n) xs)) ∧ w' = w := by
  obtain ⟨av, capv, rfl, hl1, hl2, hcv⟩ := id hl
  have Hc := Lib.hid hcv
  clear hl hcv
  unfold maxLen at hl2
  go_enter Try.func44, Try.ntmps44
  go_wp2
  go_loop [8] (fun i => ∃ k : Nat, k ≤ xs.length ∧ i = .int .i64 (k : Nat) ∧ (∀ r ∈ xs.take k, badJ n r = false)) (fun i => xs.length - (intOf i).toNat)
  case atStart => exact ⟨0, by omega, rfl, by simp⟩
  case round =>
    obtain ⟨k, hk, rfl, hn⟩ := hrel
    have Hn := Lib.hid hn
    clear hn
    by_cases hlt : k < xs.length
    · obtain ⟨g, off, rfl, _, hcell⟩ := Hc.out (by omega)
      have q0 : _ = some (Value.int .i64 (xs.getD k 0)) := hcell k hlt
      clear hcell
      have lg := lt_of_cell q0
      obtain ⟨x, hx⟩ : ∃ x, xs.getD k 0 = x := ⟨_, rfl⟩
      rw [hx] at q0
      have Hx := Lib.hid hx
      clear hx
      have hk1 : (k : Int) < xs.length := by omega
      go_wp2_with fail
      refine (check2_any _ n cap a c x hc).mono ?_
      rintro e w1 ⟨rfl, rfl⟩
      cases hb : badJ n x
      · go_wp2
        exact ⟨⟨k + 1, by omega, by go_num, fun y hy => by
          rw [take_snoc xs k hlt 0, List.mem_append, List.mem_singleton] at hy
          rcases hy with hy | rfl
          · exact Hn.out y hy
          · rw [Hx.out, hb]⟩, by simp [intOf]; omega⟩
      · have hf := fidx_some (badJ n) xs k hlt 0 Hn.out (by rw [Hx.out, hb])
        go_wp2
        go_ret
        exact ⟨by first | (rw [hf]; rfl) | rfl, rfl⟩
    · obtain rfl : k = xs.length := by omega
      have hf := fidx_none (badJ n) xs (by have := Hn.out; rw [List.take_length] at this; exact this)
      go_wp2
      go_ret
      exact ⟨by first | (rw [hf]; rfl) | rfl, rfl⟩
theorem cf2_any (p : Nat → Prop) (w : World) (v : Value) (xs : List Int) (n cap : Nat) (a : Option Addr) (c : Addr) (hc : w.cell? c = some (.slice a n cap)) (hl : Ints p w v xs) :
    Calls Try.prog 33 #[v, .func (.func 34) #[] #[.pointer (some c)]] w fun e w' => e = .returned (.bool (xs.any (badJ n))) ∧ w' = w := by
  have hd := fidx_any (badJ n) xs
  have Hd := Lib.hid hd
  clear hd
  go_enter Try.func33, Try.ntmps33
  go_wp2_with fail
  refine (idx2_any p _ v xs n cap a c hc hl).mono ?_
  rintro e w1 ⟨rfl, rfl⟩
  generalize fidx (badJ n) xs = z at Hd
  by_cases hz : 0 ≤ z
  · have hany : xs.any (badJ n) = true := by rw [← Hd.out]; simpa using hz
    have hzd : decide (0 ≤ z) = true := by simpa using hz
    go_wp2
    go_ret
    exact ⟨by rw [hany]; rfl, rfl⟩
  · have hany : xs.any (badJ n) = false := by rw [← Hd.out]; simpa using hz
    have hzd : decide (0 ≤ z) = false := by simpa using hz
    go_wp2
    go_ret
    exact ⟨by rw [hany]; rfl, rfl⟩
end Go.Proofs.Ytaciceaipmclgaa
