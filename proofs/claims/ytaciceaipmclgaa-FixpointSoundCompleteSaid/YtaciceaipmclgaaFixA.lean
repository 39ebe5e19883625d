/- Rules as they lie in memory; derive, deriveAll, slices.Contains, indices. -/
import Derived.Test.YtaciceaipmclgaaFixQ
import Derived.Deep.QuietTactic
import Derived.BigQuiet
import Derived.Deep.RegionHeld3
namespace Go.Proofs.Ytaciceaipmclgaa
open Go.RowKit
set_option linter.unusedVariables false
theorem ofInt_i64 (a : Nat) (ha : a < 18446744073709551616) : (BitVec.ofInt 64 (a : Int)).toNat = a := by
  rw [BitVec.ofInt_natCast, BitVec.toNat_ofNat]; exact Nat.mod_eq_of_lt (by omega)
theorem i64_and_nat (a b : Nat) (ha : a < 9223372036854775808) (hb : b < 9223372036854775808) : bits .and .i64 (a : Int) (b : Int) = ((a &&& b : Nat) : Int) := by
  have hx : a &&& b < 2 ^ 63 := Nat.and_lt_two_pow _ (by omega)
  show IntKind.i64.wrap ((BitVec.ofInt 64 (a : Int) &&& BitVec.ofInt 64 (b : Int)).toNat : Int) = _
  rw [BitVec.toNat_and, ofInt_i64 a (by omega), ofInt_i64 b (by omega), IntKind.wrap_i64]
  omega
theorem i64_or_nat (a b : Nat) (ha : a < 9223372036854775808) (hb : b < 9223372036854775808) : bits .or .i64 (a : Int) (b : Int) = ((a ||| b : Nat) : Int) := by
  have hx : a ||| b < 2 ^ 63 := Nat.or_lt_two_pow (by omega) (by omega)
  show IntKind.i64.wrap ((BitVec.ofInt 64 (a : Int) ||| BitVec.ofInt 64 (b : Int)).toNat : Int) = _
  rw [BitVec.toNat_or, ofInt_i64 a (by omega), ofInt_i64 b (by omega), IntKind.wrap_i64]
  omega
/-- a without the bits of b -/
def andN (a b : Nat) : Nat := a &&& (18446744073709551615 - b)
theorem i64_andNot_nat (a b : Nat) (ha : a < 9223372036854775808) (hb : b < 9223372036854775808) : bits .andNot .i64 (a : Int) (b : Int) = ((andN a b : Nat) : Int) := by
  unfold andN
  have hx : a &&& (18446744073709551615 - b) < 2 ^ 63 := by
    rw [Nat.and_comm]
    exact Nat.and_lt_two_pow _ (by omega)
  show IntKind.i64.wrap ((BitVec.ofInt 64 (a : Int) &&& ~~~BitVec.ofInt 64 (b : Int)).toNat : Int) = _
  rw [BitVec.toNat_and, BitVec.toNat_not, ofInt_i64 a (by omega), ofInt_i64 b (by omega), IntKind.wrap_i64]
  have e : 2 ^ 64 - 1 - b = 18446744073709551615 - b := by omega
  rw [e]
  omega
theorem andN_bit (a b k : Nat) (ha : a < 9223372036854775808) (hb : b < 9223372036854775808) : (andN a b).testBit k = (a.testBit k && !b.testBit k) := by
  unfold andN
  rw [Nat.testBit_and]
  by_cases hk : k < 64
  · have : (18446744073709551615 - b).testBit k = !b.testBit k := by
      have := Nat.testBit_two_pow_sub_succ (n := 64) (x := b) (by omega) k
      rw [show 18446744073709551615 - b = 2 ^ 64 - (b + 1) from by omega, this]
      simp [hk]
    rw [this]
  · have : a.testBit k = false := Nat.testBit_lt_two_pow (Nat.lt_of_lt_of_le ha (Nat.le_trans (by decide : 9223372036854775808 ≤ 2 ^ 64) (Nat.pow_le_pow_right (by decide) (by omega))))
    rw [this]
    rfl
theorem andN_zero {a b : Nat} (ha : a < 9223372036854775808) (hb : b < 9223372036854775808) : andN a b = 0 ↔ sub a b := by
  constructor
  · intro h k hk
    have := andN_bit a b k ha hb
    rw [h, hk] at this
    simpa using this.symm
  · intro h
    apply Nat.eq_of_testBit_eq
    intro k
    rw [andN_bit a b k ha hb]
    cases hk : a.testBit k
    · simp
    · simp [h k hk]
/-- a slice of n one-cell elements, the j-th of them f j, in a block of which p holds -/
def SlF (p : Nat → Prop) (w : World) (v : Value) (n : Nat) (f : Nat → Value) : Prop :=
  ∃ a cap, v = .slice a n cap ∧ n ≤ cap ∧ n ≤ maxLen ∧ (0 < n → ∃ g off, a = some ⟨g, off, none⟩ ∧ p g ∧ ∀ j, j < n → w.cell? ⟨g, off + j, none⟩ = some (f j))
theorem SlF.kept {p : Nat → Prop} {S : List Nat} {w w' : World} {v : Value} {n : Nat} {f : Nat → Value} (h : SlF p w v n f) (hc : Chg S w w') (hS : ∀ k ∈ S, ¬ p k) : SlF p w' v n f := by
  obtain ⟨a, cap, rfl, h1, h2, h3⟩ := h
  refine ⟨a, cap, rfl, h1, h2, fun h0 => ?_⟩
  obtain ⟨g, off, rfl, hp, hc'⟩ := h3 h0
  exact ⟨g, off, rfl, hp, fun j hj => (hc.cell (lt_of_cell (hc' j hj)) (fun hm => hS g hm hp)).trans (hc' j hj)⟩
theorem SlF.imp {p q : Nat → Prop} {w : World} {v : Value} {n : Nat} {f : Nat → Value} (h : SlF p w v n f) (hpq : ∀ g, p g → q g) : SlF q w v n f := by
  obtain ⟨a, cap, rfl, h1, h2, h3⟩ := h
  exact ⟨a, cap, rfl, h1, h2, fun h0 => by obtain ⟨g, off, rfl, hp, hc'⟩ := h3 h0; exact ⟨g, off, rfl, hpq g hp, hc'⟩⟩
/-- a slice of ints, read -/
def Ints (p : Nat → Prop) (w : World) (v : Value) (xs : List Int) : Prop := SlF p w v xs.length fun j => .int .i64 (xs.getD j 0)
/-- a slice of natural numbers, read -/
def Nums (p : Nat → Prop) (w : World) (v : Value) (xs : List Nat) : Prop := SlF p w v xs.length fun j => nv (xs.getD j 0)
/-- a slice of rules, read -/
def RuleL (p : Nat → Prop) (w : World) (v : Value) (l : List Rule) : Prop :=
  ∃ a cap, v = .slice a l.length cap ∧ l.length ≤ cap ∧ l.length ≤ maxLen ∧ (0 < l.length → ∃ g off, a = some ⟨g, off, none⟩ ∧ p g ∧
    ∀ j, j < l.length → w.cell? ⟨g, off + j * 2, none⟩ = some (.int .i64 (l.getD j (0, [])).1) ∧ ∃ u, w.cell? ⟨g, off + j * 2 + 1, none⟩ = some u ∧ Ints p w u (l.getD j (0, [])).2)
theorem RuleL.kept {p : Nat → Prop} {S : List Nat} {w w' : World} {v : Value} {l : List Rule} (h : RuleL p w v l) (hc : Chg S w w') (hS : ∀ k ∈ S, ¬ p k) : RuleL p w' v l := by
  obtain ⟨a, cap, rfl, h1, h2, h3⟩ := h
  refine ⟨a, cap, rfl, h1, h2, fun h0 => ?_⟩
  obtain ⟨g, off, rfl, hp, hc'⟩ := h3 h0
  refine ⟨g, off, rfl, hp, fun j hj => ?_⟩
  obtain ⟨e1, u, e2, e3⟩ := hc' j hj
  have lg := lt_of_cell e1
  exact ⟨(hc.cell lg (fun hm => hS g hm hp)).trans e1, u, (hc.cell (p := ⟨g, off + j * 2 + 1, none⟩) lg (fun hm => hS g hm hp)).trans e2, e3.kept hc hS⟩
/-- a system of rules, read -/
def RulesAt (p : Nat → Prop) (w : World) (v : Value) (R : Rules) : Prop :=
  ∃ a cap, v = .slice a R.length cap ∧ R.length ≤ cap ∧ R.length ≤ maxLen ∧ (0 < R.length → ∃ g off, a = some ⟨g, off, none⟩ ∧ p g ∧
    ∀ i, i < R.length → ∃ u, w.cell? ⟨g, off + i, none⟩ = some u ∧ RuleL p w u (R.getD i []))
theorem RulesAt.kept {p : Nat → Prop} {S : List Nat} {w w' : World} {v : Value} {R : Rules} (h : RulesAt p w v R) (hc : Chg S w w') (hS : ∀ k ∈ S, ¬ p k) : RulesAt p w' v R := by
  obtain ⟨a, cap, rfl, h1, h2, h3⟩ := h
  refine ⟨a, cap, rfl, h1, h2, fun h0 => ?_⟩
  obtain ⟨g, off, rfl, hp, hc'⟩ := h3 h0
  refine ⟨g, off, rfl, hp, fun j hj => ?_⟩
  obtain ⟨u, e1, e2⟩ := hc' j hj
  exact ⟨u, (hc.cell (lt_of_cell e1) (fun hm => hS g hm hp)).trans e1, e2.kept hc hS⟩
theorem RuleL.imp {p q : Nat → Prop} {w : World} {v : Value} {l : List Rule} (h : RuleL p w v l) (hpq : ∀ g, p g → q g) : RuleL q w v l := by
  obtain ⟨a, cap, rfl, h1, h2, h3⟩ := h
  refine ⟨a, cap, rfl, h1, h2, fun h0 => ?_⟩
  obtain ⟨g, off, rfl, hp, hc'⟩ := h3 h0
  refine ⟨g, off, rfl, hpq g hp, fun j hj => ?_⟩
  obtain ⟨e1, u, e2, e3⟩ := hc' j hj
  exact ⟨e1, u, e2, e3.imp hpq⟩
theorem fold_take_succ {α β : Type} (f : β → α → β) (l : List α) (k : Nat) (hk : k < l.length) (a : β) (d : α) : (l.take (k + 1)).foldl f a = f ((l.take k).foldl f a) (l.getD k d) := by
  rw [List.take_succ_eq_append_getElem hk, List.foldl_append]
  simp [hk]
set_option maxHeartbeats 1000000 in
theorem derive_any (p : Nat → Prop) (w : World) (r : Rule) (u vs : Value) (S : List Nat) (hu : Ints p w u r.2) (hs : Nums p w vs S) (h0 : 0 ≤ r.1) (h1 : r.1 ≤ 1048575)
    (hidx : ∀ j ∈ r.2, 0 ≤ j ∧ j < S.length) (hS : ∀ x ∈ S, x ≤ univ) :
    Calls Try.prog 23 #[.agg #[.int .i64 r.1, u], vs] w fun e w' => e = .returned (nv (der S r)) ∧ Chg [] w w' := by
  obtain ⟨m, all⟩ := r
  simp only at hu h0 h1 hidx
  obtain ⟨n, rfl⟩ := Int.eq_ofNat_of_zero_le h0
  obtain ⟨a, cap, rfl, hl1, hl2, hcu⟩ := hu
  obtain ⟨b, capb, rfl, hb1, hb2, hcb⟩ := hs
  unfold maxLen at hl2 hb2
  have Hcu := Lib.hid hcu
  have Hcb := Lib.hid hcb
  have Hidx := Lib.hid hidx
  have HS := Lib.hid hS
  clear hcu hcb hidx hS
  go_enter Try.func23, Try.ntmps23
  go_wp2
  go_loop [5, 13] (fun e i => ∃ k : Nat, k ≤ all.length ∧ i = .int .i64 (k : Nat) ∧ e = nv ((all.take k).foldl (fun e j => e &&& S.getD j.toNat 0) n)) (fun _ i => all.length - (intOf i).toNat)
  case atStart => exact ⟨0, by omega, rfl, by simp [nv]⟩
  case round =>
    obtain ⟨k, hk, rfl, rfl⟩ := hrel
    by_cases hlt : k < all.length
    · obtain ⟨g, off, rfl, _, hcell⟩ := Hcu.out (by omega)
      have q0 := hcell k hlt
      obtain ⟨j0, hj1, hj2⟩ : ∃ j, all.getD k 0 = ((j : Nat) : Int) ∧ j < S.length := by
        have hmem : all.getD k 0 ∈ all := by simp [hlt]
        obtain ⟨h1, h2⟩ := Hidx.out _ hmem
        obtain ⟨j, hj⟩ := Int.eq_ofNat_of_zero_le h1
        exact ⟨j, hj, by omega⟩
      have hf := fold_take_succ (fun (e : Nat) (j : Int) => e &&& S.getD j.toNat 0) all k hlt n 0
      rw [hj1, Int.toNat_natCast] at hf
      rw [hj1] at q0
      obtain ⟨gb, offb, rfl, _, hcellb⟩ := Hcb.out (by omega)
      have q1 := hcellb j0 hj2
      clear hcell hcellb
      have lg := lt_of_cell q0
      have lgb := lt_of_cell q1
      have hle : (all.take k).foldl (fun e j => e &&& S.getD j.toNat 0) n ≤ univ := le_of_sub_univ (der_fold_le S (all.take k) n) (by unfold univ; omega)
      unfold univ at hle
      generalize (all.take k).foldl (fun e j => e &&& S.getD j.toNat 0) n = acc at hf hle
      have hsx : S.getD j0 0 ≤ 1048575 := HS.out _ (by simp [hj2])
      generalize S.getD j0 0 = sx at hf q1 hsx
      have hand : bits .and .i64 (acc : Int) (sx : Int) = ((acc &&& sx : Nat) : Int) := i64_and_nat _ _ (by omega) (by omega)
      unfold nv at q1 ⊢
      have hk1 : (k : Int) < all.length := by omega
      have hj3 : (j0 : Int) < S.length := by omega
      have Hf := Lib.hid hf
      clear hf hj1
      go_wp2
      refine ⟨⟨k + 1, by omega, by go_num, ?_⟩, by simp [intOf]; omega⟩
      rw [Hf.out]
    · obtain rfl : k = all.length := by omega
      rw [List.take_length]
      go_wp2
      go_ret
      exact ⟨rfl, (Chg.refl _ w).alloc _⟩
/-- the rules of a valid list -/
structure Okl (n : Nat) (l : List Rule) : Prop where
  mask : ∀ r ∈ l, 0 ≤ r.1 ∧ r.1 ≤ 1048575
  idx : ∀ r ∈ l, ∀ j ∈ r.2, 0 ≤ j ∧ j < (n : Int)
theorem Okr.okl {R : Rules} (h : Okr R) (i : Nat) (hi : i < R.length) : Okl R.length (R.getD i []) := by
  have hm : R.getD i [] ∈ R := by simp [hi]
  exact ⟨h.mask _ hm, h.idx _ hm⟩
set_option maxHeartbeats 1000000 in
theorem deriveAll_any (p : Nat → Prop) (w : World) (l : List Rule) (v vs : Value) (S : List Nat) (hl : RuleL p w v l) (hs : Nums p w vs S) (hok : Okl S.length l) (hS : ∀ x ∈ S, x ≤ univ) :
    Calls Try.prog 36 #[v, vs] w fun e w' => e = .returned (nv (dAll S l)) ∧ Chg [] w w' := by
  obtain ⟨a, cap, rfl, hl1, hl2, hc⟩ := hl
  have Hc := Lib.hid hc
  have Hs := Lib.hid hs
  have Hok := Lib.hid hok
  have HS := Lib.hid hS
  clear hc hs hok hS
  unfold maxLen at hl2
  go_enter Try.func36, Try.ntmps36
  go_wp2
  go_loopw [5, 10] (fun e i wr => ∃ k : Nat, k ≤ l.length ∧ i = .int .i64 (k : Nat) ∧ e = nv ((l.take k).foldl (fun e r => e ||| der S r) 0) ∧ Chg [] w wr) (fun _ i _ => l.length - (intOf i).toNat)
  case atStart => exact ⟨0, by omega, rfl, by simp [nv], Chg.refl _ _⟩
  case round =>
    obtain ⟨k, hk, rfl, rfl, hcw⟩ := hrel
    by_cases hlt : k < l.length
    · obtain ⟨g, off, rfl, _, hcell⟩ := Hc.out (by omega)
      obtain ⟨q0, u, q1, hu⟩ := hcell k hlt
      clear hcell
      obtain ⟨au, capu, rfl⟩ : ∃ au capu, u = .slice au (l.getD k (0, [])).2.length capu := by obtain ⟨au, capu, h, _⟩ := hu; exact ⟨au, capu, h⟩
      have hmem : l.getD k (0, []) ∈ l := by simp [hlt]
      have hle : (l.take k).foldl (fun e r => e ||| der S r) 0 ≤ univ := dAll_univ (l := l.take k) (fun r hr => (Hok.out.mask r (List.mem_of_mem_take hr)).2) S
      have hf := fold_take_succ (fun (e : Nat) (r : Rule) => e ||| der S r) l k hlt 0 (0, [])
      obtain ⟨m1, m2⟩ := Hok.out.mask _ hmem
      have Hidx := Lib.hid (Hok.out.idx _ hmem)
      generalize l.getD k (0, []) = r at q0 q1 hu hf m1 m2 Hidx
      have hde : der S r ≤ univ := der_univ m2 S
      unfold univ at hle hde
      generalize (l.take k).foldl (fun e r => e ||| der S r) 0 = acc at hf hle
      have hor : bits .or .i64 (acc : Int) (der S r : Int) = ((acc ||| der S r : Nat) : Int) := i64_or_nat _ _ (by omega) (by omega)
      have Hf := Lib.hid hf
      clear hf
      have lg := lt_of_cell q0
      replace q0 := (hcw.cell lg (by simp)).trans q0
      replace q1 := (hcw.cell (p := ⟨g, off + k * 2 + 1, none⟩) lg (by simp)).trans q1
      have lg' := lt_of_cell q0
      have hk1 : (k : Int) < l.length := by omega
      have Hu := Lib.hid (hu.kept (hcw.alloc (.cells #[.int .i64 r.1, .slice au r.2.length capu] 31)) (by simp))
      have Hs' := Lib.hid (Hs.out.kept (hcw.alloc (.cells #[.int .i64 r.1, .slice au r.2.length capu] 31)) (by simp))
      clear hu
      unfold nv
      go_wp2_with fail
      refine (derive_any p _ r _ vs S Hu.out Hs'.out m1 m2 Hidx.out HS.out).mono ?_
      rintro e w1 ⟨rfl, c1⟩
      unfold nv
      go_wp2
      refine ⟨⟨k + 1, by omega, by go_num, ?_, (hcw.alloc _).new c1⟩, by simp [intOf]; omega⟩
      rw [Hf.out]
    · obtain rfl : k = l.length := by omega
      rw [List.take_length]
      go_wp2
      go_ret
      exact ⟨rfl, hcw⟩
/-- slices.Contains at ints -/
theorem contains_any (p : Nat → Prop) (w : World) (v : Value) (xs : List Nat) (x : Nat) (h : Nums p w v xs) :
    Calls Try.prog 35 #[v, nv x] w fun e w' => e = .returned (.bool (decide (x ∈ xs))) ∧ w' = w := by
  obtain ⟨a, cap, rfl, hl1, hl2, hc⟩ := h
  unfold maxLen at hl2
  have Hc := Lib.hid hc
  clear hc
  unfold nv
  go_enter Try.func35, Try.ntmps35
  go_wp2
  go_loop [8] (fun i => ∃ k : Nat, k ≤ xs.length ∧ i = .int .i64 (k : Nat) ∧ x ∉ xs.take k) (fun i => xs.length - (intOf i).toNat)
  case atStart => exact ⟨0, by omega, rfl, by simp⟩
  case round =>
    obtain ⟨k, hk, rfl, hn⟩ := hrel
    by_cases hlt : k < xs.length
    · obtain ⟨g, off, rfl, _, hcell⟩ := Hc.out (by omega)
      have q0 := hcell k hlt
      clear hcell
      unfold nv at q0
      have hk1 : (k : Int) < xs.length := by omega
      have htk : xs.take (k + 1) = xs.take k ++ [xs.getD k 0] := by rw [List.take_succ_eq_append_getElem hlt]; simp [hlt]
      have hmem : xs.getD k 0 ∈ xs := by simp [hlt]
      have Hn := Lib.hid hn
      have Htk := Lib.hid htk
      have Hmem := Lib.hid hmem
      clear hn htk hmem
      generalize xs.getD k 0 = y at q0 Htk Hmem
      by_cases hxy : x = y
      · subst hxy
        have hd : decide (x ∈ xs) = true := decide_eq_true Hmem.out
        go_wp2
        go_ret
        exact ⟨rfl, rfl⟩
      · have hb : ((x : Int) == (y : Int)) = false := beq_eq_false_iff_ne.2 (by omega)
        have hb2 : ¬ (x : Int) = (y : Int) := by omega
        go_wp2
        refine ⟨⟨k + 1, by omega, by go_num, ?_⟩, by simp [intOf]; omega⟩
        rw [Htk.out]
        simp [Hn.out, hxy]
    · obtain rfl : k = xs.length := by omega
      have hd : decide (x ∈ xs) = false := by rw [List.take_length] at hn; exact decide_eq_false hn
      clear hn
      go_wp2
      go_ret
      exact ⟨rfl, rfl⟩
end Go.Proofs.Ytaciceaipmclgaa
