/- Whether a rule applies: derivations' two functions. -/
import Derived.Test.YtaciceaipmclgaaFxA
namespace Go.Proofs.Ytaciceaipmclgaa
open Go.RowKit
set_option linter.unusedVariables false
/-- the derived sets: a box c, which holds a row gd of bools -/
structure DAt (w : World) (c gd n : Nat) (D : Nat → Bool) : Prop where
  box : w.cell? ⟨c, 0, none⟩ = some (.slice (some ⟨gd, 0, none⟩) n n)
  row : w.rowIs gd 4 n (fun j => .bool (D j))
theorem DAt.kept {w w' : World} {c gd n : Nat} {D : Nat → Bool} {T : List Nat} (h : DAt w c gd n D) (hc : Chg T w w') (h1 : c ∉ T) (h2 : gd ∉ T) : DAt w' c gd n D :=
  ⟨(hc.cell (p := ⟨c, 0, none⟩) (lt_of_cell h.box) h1).trans h.box, h.row.of_block (hc.block gd h.row.lt h2)⟩
theorem underived_any (w : World) (c gd n j : Nat) (D : Nat → Bool) (h : DAt w c gd n D) (hj : j < n) :
    Calls Try.prog 38 #[.int .i64 (j : Nat), .pointer (some ⟨c, 0, none⟩)] w fun e w' => e = .returned (.bool (!D j)) ∧ w' = w := by
  have q0 := h.box
  have q1 := h.row.cell hj
  clear h
  go_enter Try.func38, Try.ntmps38
  go_wp2
  go_ret
  exact ⟨rfl, rfl⟩
set_option maxHeartbeats 1000000 in
theorem idxU_any (p : Nat → Prop) (w : World) (c gd n : Nat) (D : Nat → Bool) (v : Value) (xs : List Int) (h : DAt w c gd n D) (hl : Ints p w v xs) (hx : ∀ j ∈ xs, 0 ≤ j ∧ j < (n : Int)) :
    Calls Try.prog 44 #[v, .func (.func 38) #[] #[.pointer (some ⟨c, 0, none⟩)]] w fun e w' => (∃ z, e = .returned (.int .i64 z) ∧ FPost (fun j : Int => !D j.toNat) xs 0 z) ∧ w' = w := by
  obtain ⟨av, capv, rfl, hl1, hl2, hcv⟩ := id hl
  have Hc := Lib.hid hcv
  have H := Lib.hid h
  have Hx := Lib.hid hx
  clear hl hcv h hx
  unfold maxLen at hl2
  go_enter Try.func44, Try.ntmps44
  go_wp2
  go_loopw [8] (fun i wr => ∃ k : Nat, k ≤ xs.length ∧ i = .int .i64 (k : Nat) ∧ Hid (∀ r ∈ xs.take k, (!D r.toNat) = false) ∧ wr = w) (fun i _ => xs.length - (intOf i).toNat)
  case atStart => exact ⟨0, by omega, rfl, Lib.hid (by simp), rfl⟩
  case round =>
    obtain ⟨k, hk, rfl, Hn, rfl⟩ := hrel
    by_cases hlt : k < xs.length
    · obtain ⟨g, off, rfl, hp, hcc⟩ := Hc.out (by omega)
      have q0 := hcc k hlt
      obtain ⟨r, hr⟩ : ∃ r, xs.getD k 0 = r := ⟨_, rfl⟩
      have hrm := Hx.out r (by rw [← hr]; exact getD_mem hlt 0)
      rw [hr] at q0
      have Hr := Lib.hid hr
      obtain ⟨m, rfl⟩ : ∃ m : Nat, r = (m : Int) := ⟨r.toNat, by omega⟩
      have hmn : m < n := by omega
      have hk1 : (k : Int) < xs.length := by omega
      clear hr hcc hrm
      go_wp2_with fail
      refine (underived_any _ c gd n m D H.out hmn).mono ?_
      rintro e w1 ⟨rfl, rfl⟩
      cases hb : D m
      · go_wp2
        go_ret
        exact ⟨⟨_, rfl, .inl ⟨k, hlt, rfl, by rw [Hr.out]; show (!D m) = true; rw [hb]; rfl⟩⟩, rfl⟩
      · go_wp2
        exact ⟨⟨k + 1, by omega, by go_num, Lib.hid (mem_take_succ hlt 0 Hn.out (by rw [Hr.out]; show (!D m) = false; rw [hb]; rfl)), trivial⟩, by simp [intOf]; omega⟩
    · obtain rfl : k = xs.length := by omega
      go_wp2
      go_ret
      exact ⟨⟨_, rfl, .inr ⟨rfl, by have := Hn.out; rw [List.take_length] at this; exact this⟩⟩, rfl⟩
theorem cfU_any (p : Nat → Prop) (w : World) (c gd n : Nat) (D : Nat → Bool) (v : Value) (xs : List Int) (h : DAt w c gd n D) (hl : Ints p w v xs) (hx : ∀ j ∈ xs, 0 ≤ j ∧ j < (n : Int)) :
    Calls Try.prog 33 #[v, .func (.func 38) #[] #[.pointer (some ⟨c, 0, none⟩)]] w fun e w' => e = .returned (.bool (xs.any fun j => !D j.toNat)) ∧ w' = w := by
  go_enter Try.func33, Try.ntmps33
  go_wp2_with fail
  refine (idxU_any p _ c gd n D v xs h hl hx).mono ?_
  rintro e w1 ⟨⟨z, rfl, hz⟩, rfl⟩
  have Hd := Lib.hid hz.any
  clear hz
  by_cases hz : 0 ≤ z
  · have hany : (xs.any fun j => !D j.toNat) = true := by rw [← Hd.out]; simpa using hz
    have hzd : decide (0 ≤ z) = true := by simpa using hz
    go_wp2
    go_ret
    exact ⟨by rw [hany]; rfl, rfl⟩
  · have hany : (xs.any fun j => !D j.toNat) = false := by rw [← Hd.out]; simpa using hz
    have hzd : decide (0 ≤ z) = false := by simpa using hz
    go_wp2
    go_ret
    exact ⟨by rw [hany]; rfl, rfl⟩
theorem bit_eq (m e : Nat) (hm : m ≤ univ) : bits .and .i64 ((m : Int) / 2 ^ e) 1 = if m.testBit e then 1 else 0 := by
  have h1 : ((m : Int) / 2 ^ e) = ((m / 2 ^ e : Nat) : Int) := by rw [Int.natCast_ediv, Int.natCast_pow]; rfl
  have h2 : m / 2 ^ e ≤ m := Nat.div_le_self _ _
  unfold univ at hm
  have h3 := i64_and_nat (m / 2 ^ e) 1 (by omega) (by omega)
  rw [h1, show (1 : Int) = ((1 : Nat) : Int) from rfl, h3, Nat.and_one_is_mod, Nat.testBit_eq_decide_div_mod_eq]
  by_cases h : m / 2 ^ e % 2 = 1
  · rw [h]; rfl
  · rw [show m / 2 ^ e % 2 = 0 by omega]; rfl
theorem applies_any (p : Nat → Prop) (w : World) (be c gd n e : Nat) (D : Nat → Bool) (m : Int) (xs : List Int) (u : Value) (h : DAt w c gd n D) (hb : w.cell? ⟨be, 0, none⟩ = some (nv e)) (he : e < 20) (hm : 0 ≤ m ∧ m ≤ 1048575) (hl : Ints p w u xs) (hx : ∀ j ∈ xs, 0 ≤ j ∧ j < (n : Int)) :
    Calls Try.prog 37 #[.agg #[.int .i64 m, u], .pointer (some ⟨be, 0, none⟩), .pointer (some ⟨c, 0, none⟩)] w fun o w' => o = .returned (.bool (ap e D (m, xs))) ∧ Chg [] w w' := by
  have hc1 : Chg [] w (w.alloc (.cells #[.int .i64 m, u] 31)) := (Chg.refl _ _).alloc _
  have q0 : w.cell? ⟨be, 0, none⟩ = some (.int .i64 (e : Int)) := hb
  have lb := lt_of_cell q0
  have H := Lib.hid (cfU_any p _ c gd n D u xs (h.kept hc1 (by simp) (by simp)) (hl.kept hc1 (by simp)) hx)
  obtain ⟨au, cu, rfl⟩ := SlF.shape hl
  have he2 : (e : Int) < 20 := by omega
  obtain ⟨k, rfl⟩ : ∃ k : Nat, m = k := ⟨m.toNat, by omega⟩
  have hB := bit_eq k e (by unfold univ; omega)
  clear hl hb h hx
  by_cases ht : k.testBit e = true
  · rw [if_pos ht] at hB
    have Ha := Lib.hid (show ap e D ((k : Int), xs) = !(xs.any fun j => !D j.toNat) by unfold ap; rw [show ((k : Int), xs).1.toNat = k from Int.toNat_natCast k, ht]; rfl)
    clear ht
    go_enter Try.func37, Try.ntmps37
    go_wp2_with fail
    refine H.out.mono ?_
    rintro o w1 ⟨rfl, rfl⟩
    go_wp2
    go_ret
    exact ⟨by rw [Ha.out]; rfl, hc1⟩
  · rw [if_neg ht] at hB
    have Ha := Lib.hid (show ap e D ((k : Int), xs) = false by unfold ap; rw [show ((k : Int), xs).1.toNat = k from Int.toNat_natCast k]; simp [ht])
    clear ht H
    go_enter Try.func37, Try.ntmps37
    go_wp2
    go_ret
    exact ⟨by rw [Ha.out]; rfl, hc1⟩
set_option maxHeartbeats 1000000 in
theorem idxA_any (p : Nat → Prop) (w : World) (be c gd n e : Nat) (D : Nat → Bool) (v : Value) (l : List Rule) (h : DAt w c gd n D) (hb : w.cell? ⟨be, 0, none⟩ = some (nv e)) (he : e < 20) (hl : RuleL p w v l) (hm : ∀ r ∈ l, 0 ≤ r.1 ∧ r.1 ≤ 1048575) (hx : ∀ r ∈ l, ∀ j ∈ r.2, 0 ≤ j ∧ j < (n : Int)) :
    Calls Try.prog 39 #[v, .func (.func 37) #[] #[.pointer (some ⟨be, 0, none⟩), .pointer (some ⟨c, 0, none⟩)]] w fun o w' => (∃ z, o = .returned (.int .i64 z) ∧ FPost (ap e D) l (0, []) z) ∧ Chg [] w w' := by
  obtain ⟨a, cap, rfl, hl1, hl2, hc⟩ := id hl
  have Hl := Lib.hid hl
  have H := Lib.hid h
  have Hb := Lib.hid hb
  have Hm := Lib.hid hm
  have Hx := Lib.hid hx
  clear hl hc h hb hm hx
  unfold maxLen at hl2
  go_enter Try.func39, Try.ntmps39
  go_wp2
  go_loopw [8] (fun i wr => ∃ k : Nat, k ≤ l.length ∧ i = .int .i64 (k : Nat) ∧ Hid (∀ r ∈ l.take k, ap e D r = false) ∧ Chg [] w wr) (fun i _ => l.length - (intOf i).toNat)
  case atStart => exact ⟨0, by omega, rfl, Lib.hid (by simp), Chg.refl _ _⟩
  case round =>
    obtain ⟨k, hk, rfl, Hn, hcw⟩ := hrel
    by_cases hlt : k < l.length
    · obtain ⟨g, off, u, rfl, q0, q1, hu⟩ := (Hl.out.kept hcw (by simp)).at k hlt
      have lg := lt_of_cell q0
      obtain ⟨au, capu, rfl⟩ := SlF.shape hu
      obtain ⟨r, hr⟩ : ∃ r, l.getD k (0, []) = r := ⟨_, rfl⟩
      have hrm : r ∈ l := by rw [← hr]; exact getD_mem hlt (0, [])
      rw [hr] at q0 q1 hu
      have Hr := Lib.hid hr
      have Ha := Lib.hid (applies_any p wr be c gd n e D r.1 r.2 _ (H.out.kept hcw (by simp) (by simp)) ((hcw.cell (p := ⟨be, 0, none⟩) (lt_of_cell Hb.out) (by simp)).trans Hb.out) he (Hm.out r hrm) hu (Hx.out r hrm))
      clear hr hu hrm
      have hk1 : (k : Int) < l.length := by omega
      go_wp2_with fail
      refine Ha.out.mono ?_
      rintro o w1 ⟨rfl, c1⟩
      cases hb : ap e D r
      · have hb' : ap e D (r.1, r.2) = false := hb
        go_wp2
        exact ⟨⟨k + 1, by omega, by go_num, Lib.hid (mem_take_succ hlt (0, []) Hn.out (by rw [Hr.out, hb])), hcw.trans c1⟩, by simp [intOf]; omega⟩
      · have hb' : ap e D (r.1, r.2) = true := hb
        go_wp2
        go_ret
        exact ⟨⟨_, rfl, .inl ⟨k, hlt, rfl, by rw [Hr.out, hb]⟩⟩, hcw.trans c1⟩
    · obtain rfl : k = l.length := by omega
      go_wp2
      go_ret
      exact ⟨⟨_, rfl, .inr ⟨rfl, by have := Hn.out; rw [List.take_length] at this; exact this⟩⟩, hcw⟩
end Go.Proofs.Ytaciceaipmclgaa
