/- Least; isSolution; the fixed example. -/
import Derived.Test.YtaciceaipmclgaaFixG
import Derived.Deep.DeepFit
namespace Go.Proofs.Ytaciceaipmclgaa
open Go.RowKit
set_option linter.unusedVariables false
/-- S is the least solution of R -/
structure Lst (R : Rules) (S : List Nat) : Prop where
  len : S.length = R.length
  bd : ∀ x ∈ S, x ≤ univ
  sol : sol R S
  least : ∀ T, Go.Proofs.Ytaciceaipmclgaa.sol R T → subs S T
theorem getD_zeros (n i : Nat) : (List.replicate n 0).getD i 0 = 0 := by
  rw [List.getD_eq_getElem?_getD, List.getElem?_replicate]
  split <;> rfl
theorem Lst.of_wk {R : Rules} {S : List Nat} (h : Wk R (List.replicate R.length 0) S []) (hb : ∀ x ∈ S, x ≤ univ) : Lst R S :=
  ⟨h.len, hb, h.sol, fun T hT => h.least T hT fun i => by rw [getD_zeros]; exact sub_zero _⟩
theorem Lst.unique {R : Rules} {S T : List Nat} (h : Lst R S) (k : Lst R T) : S = T := by
  apply List.ext_getElem (h.len.trans k.len.symm)
  intro i h1 h2
  have := (h.least T k.sol i).antisymm (k.least S h.sol i)
  simpa [h1, h2] using this
/-- the sets S lie in a row of their own -/
def SetsAt (w0 w : World) (v : Value) (S : List Nat) : Prop := ∃ gs, v = .slice (some ⟨gs, 0, none⟩) S.length S.length ∧ w0.heap.size ≤ gs ∧ w.rowIs gs 3 S.length (fun j => nv (S.getD j 0))
def LeastPost (R : Rules) (w : World) (e : Ending) (w' : World) : Prop :=
  ((Okr R ∧ ∃ v S, e = .returned (.tuple #[v, .int .i64 0]) ∧ Lst R S ∧ SetsAt w w' v S) ∨ (¬ Okr R ∧ ∃ c : Int, c ≠ 0 ∧ e = .returned (.tuple #[.slice none 0 0, .int .i64 c]))) ∧ Chg [] w w'
set_option maxHeartbeats 1000000 in
theorem least_any (p : Nat → Prop) (w : World) (R : Rules) (v : Value) (hR : RulesAt p w v R) (hp : ∀ k, p k → k < w.heap.size) : Calls Try.prog 7 #[v] w (LeastPost R w) := by
  obtain ⟨av, capv, rfl⟩ : ∃ a cap, v = .slice a R.length cap := by obtain ⟨a, cap, h, _⟩ := hR; exact ⟨a, cap, h⟩
  have hlm : R.length ≤ maxLen := by obtain ⟨a, cap, h, _, h2, _⟩ := hR; exact h2
  unfold maxLen at hlm
  have HR := Lib.hid hR
  clear hR
  go_enter Try.func7, Try.ntmps7
  go_wp2_with fail
  refine (check_any p _ R _ HR.out).mono ?_
  rintro e w1 ⟨c, rfl, hc, c1⟩
  by_cases hok : Okr R
  · obtain rfl : c = 0 := hc.2 hok
    have hn := hok.size
    have Hok := Lib.hid hok
    clear hc hok
    have hmk := run_make_row' (P := Try.prog) 23 3 (.int .i64 0) 8 Try.underlying23 Try.infoInt rfl .i64 .i64 R.length (by omega) (by omega)
    have hmk' := hmk w1
    clear hmk
    go_wp2_with fail
    refine (indices_any _ R.length hn).mono ?_
    rintro e w2 ⟨vq, rfl, hq, c2⟩
    clear hmk'
    have hrow := World.rowIs_made w1 (.int .i64 0) R.length 3
    have hrow2 := hrow.of_block (c2.block _ hrow.lt (by simp))
    have hcall := c1.trans ((Chg.refl [] w1).alloc (.cells (madeCells #[.int .i64 0] R.length) 3)) |>.trans c2
    obtain ⟨gp, offp, capp, curp, rfl, hgp, hqrest⟩ := id hq
    rw [List.length_range] at hq
    have hgp' : w1.heap.size + 1 ≤ gp := by simpa using hgp
    have hs1 := c1.size
    have hs2 := c2.size
    simp at hs2
    have Hq := Lib.hid hq
    have Hrow2 := Lib.hid hrow2
    have Hcall := Lib.hid hcall
    clear hq hrow hrow2 hcall hqrest c2
    go_wp2_with fail
    go_fit (propagate_any p _ R _ _ (List.replicate R.length 0) (List.range R.length) w1.heap.size gp _ (HR.out.kept Hcall.out (by simp)) Hok.out (by simp) (by simp [univ]) (Hrow2.out.congr fun i hi => by rw [getD_zeros]; rfl) Hq.out (by simp [Value.ownBlock]) (by omega) List.nodup_range (by simp) (fun k hk => by have := hp k hk; have := Hcall.out.size; omega) (fun hk => by have := hp _ hk; omega) (fun hk => by have := hp _ hk; omega) (fun i hi hn => absurd (by simpa using hi) hn))
    rintro e w3 ⟨rfl, ⟨S, hwk, hbd, hrow3⟩, c3⟩
    have hl := Lst.of_wk hwk hbd
    have hc : Chg [] w w3 := Hcall.out.comp c3 (fun x hx => by
      simp only [List.mem_cons, List.not_mem_nil, or_false] at hx
      rcases hx with rfl | rfl <;> (right; omega))
    have hlen : S.length = R.length := hl.len
    have Hlen := Lib.hid hlen
    have Hl := Lib.hid hl
    have Hrow3 := Lib.hid hrow3
    have Hc := Lib.hid hc
    clear hlen hl hrow3 hc hwk hbd c3
    go_wp2
    go_ret2
    exact ⟨Or.inl ⟨Hok.out, _, S, rfl, Hl.out, w1.heap.size, by rw [Hlen.out]; rfl, hs1, by rw [Hlen.out]; exact Hrow3.out⟩, Hc.out⟩
  · have hc0 : c ≠ 0 := fun e => hok (hc.1 e)
    have hb : (c == 0) = false := beq_eq_false_iff_ne.2 hc0
    have Hok := Lib.hid (And.intro hok hc0)
    clear hc hok hc0
    go_wp2
    go_ret2
    exact ⟨Or.inr ⟨Hok.out.1, c, Hok.out.2, rfl⟩, c1⟩
/-! ### isSolution -/
def solB (R : Rules) (S : List Nat) : Bool := (List.range R.length).all fun i => (R.getD i []).all fun r => decide (andN (der S r) (S.getD i 0) = 0)
theorem solB_iff {R : Rules} {S : List Nat} (hok : Okr R) (hb : ∀ x ∈ S, x ≤ univ) : solB R S = true ↔ sol R S := by
  have hbi : ∀ i, S.getD i 0 ≤ univ := fun i => by
    rw [List.getD_eq_getElem?_getD]
    cases h : S[i]? with
    | none => simp
    | some x => exact hb x (List.mem_of_getElem? h)
  unfold solB sol
  simp only [List.all_eq_true, List.mem_range, decide_eq_true_eq]
  constructor
  · intro h i hi r hr
    have h1 := der_univ ((hok.okl i hi).mask r hr).2 S
    have h2 := hbi i
    unfold univ at h1 h2
    exact (andN_zero (by omega) (by omega)).1 (h i hi r hr)
  · intro h i hi r hr
    have h1 := der_univ ((hok.okl i hi).mask r hr).2 S
    have h2 := hbi i
    unfold univ at h1 h2
    exact (andN_zero (by omega) (by omega)).2 (h i hi r hr)
theorem solB_false {R : Rules} {S : List Nat} {i k : Nat} (hi : i < R.length) (hk : k < (R.getD i []).length) (h : andN (der S ((R.getD i []).getD k (0, []))) (S.getD i 0) ≠ 0) : solB R S = false := by
  cases hs : solB R S with
  | false => rfl
  | true =>
    unfold solB at hs
    simp only [List.all_eq_true, List.mem_range, decide_eq_true_eq] at hs
    exact absurd (hs i hi _ (getD_mem hk _)) h
theorem solB_true {R : Rules} {S : List Nat} (h : ∀ i, i < R.length → ∀ r ∈ R.getD i [], andN (der S r) (S.getD i 0) = 0) : solB R S = true := by
  unfold solB
  simp only [List.all_eq_true, List.mem_range, decide_eq_true_eq]
  exact h
set_option maxHeartbeats 2000000 in
theorem isSolution_any (p : Nat → Prop) (w : World) (R : Rules) (v vs : Value) (S : List Nat) (hR : RulesAt p w v R) (hs : Nums p w vs S) (hok : Okr R) (hlen : S.length = R.length) (hS : ∀ x ∈ S, x ≤ univ) :
    Calls Try.prog 8 #[v, vs] w fun e w' => e = .returned (.bool (solB R S)) ∧ Chg [] w w' := by
  obtain ⟨av, capv, rfl⟩ : ∃ a cap, v = .slice a R.length cap := by obtain ⟨a, cap, h, _⟩ := hR; exact ⟨a, cap, h⟩
  have hn60 := hok.size
  obtain ⟨bs, capb, rfl, hb1, hb2, hcb⟩ := id hs
  unfold maxLen at hb2
  have HR := Lib.hid hR
  have Hok := Lib.hid hok
  have Hlen := Lib.hid hlen
  have HS := Lib.hid hS
  have Hs := Lib.hid hcb
  clear hR hok hlen hS hs hcb
  go_enter Try.func8, Try.ntmps8
  go_wp2
  go_loopw [13] (fun i wr => ∃ k : Nat, k ≤ R.length ∧ i = .int .i64 (k : Nat) ∧ (∀ j, j < k → ∀ r ∈ R.getD j [], andN (der S r) (S.getD j 0) = 0) ∧ Chg [] w wr) (fun i _ => R.length - (intOf i).toNat)
  case atStart => exact ⟨0, by omega, rfl, fun j hj => absurd hj (by omega), Chg.refl _ _⟩
  case round =>
    obtain ⟨i, hi, rfl, hn, hcw⟩ := hrel
    have Hn := Lib.hid hn
    have Hcw := Lib.hid hcw
    clear hn hcw
    by_cases hlt : i < R.length
    · obtain ⟨g, off, u, rfl, q0, hl⟩ := (HR.out.kept Hcw.out (by simp)).at i hlt
      have lg := lt_of_cell q0
      obtain ⟨au, capu, rfl, hml⟩ := hl.shape
      unfold maxLen at hml
      have Hl := Lib.hid hl
      clear hl
      have hokl := Hok.out.okl i hlt
      obtain ⟨l, hle⟩ : ∃ l, R.getD i [] = l := ⟨_, rfl⟩
      rw [hle] at q0 hml Hl hokl
      have Hle := Lib.hid hle
      have Hokl := Lib.hid hokl
      clear hle hokl
      have hi1 : (i : Int) < R.length := by omega
      obtain ⟨w4, rfl⟩ : ∃ x, x = wr := ⟨_, rfl⟩
      obtain ⟨gb, offb, rfl, _, hcellb⟩ := Hs.out (by rw [Hlen.out]; omega)
      have Hcellb := Lib.hid hcellb
      clear hcellb
      have hbi : S.getD i 0 ≤ 1048575 := HS.out _ (getD_mem (by rw [Hlen.out]; exact hlt) 0)
      go_wp2
      go_loopw [21] (fun jj wr => ∃ k : Nat, k ≤ l.length ∧ jj = .int .i64 (k : Nat) ∧ (∀ r ∈ l.take k, andN (der S r) (S.getD i 0) = 0) ∧ Chg [] w4 wr) (fun jj _ => l.length - (intOf jj).toNat)
      case atStart => exact ⟨0, by omega, rfl, by simp, Chg.refl _ _⟩
      case round =>
        obtain ⟨k, hk, rfl, hn, hcw⟩ := hrel
        have Hn2 := Lib.hid hn
        have Hcw2 := Lib.hid hcw
        clear hn hcw
        by_cases hlt2 : k < l.length
        · obtain ⟨g2, off2, u2, rfl, q1, q2, hints⟩ := (Hl.out.kept Hcw2.out (by simp)).at k hlt2
          have lg2 := lt_of_cell q1
          obtain ⟨a3, cap3, rfl⟩ := SlF.shape hints
          have Hints := Lib.hid hints
          obtain ⟨a3', cap3', hv3, _, hml3, hc3⟩ := id hints
          simp only [Value.slice.injEq] at hv3
          obtain ⟨rfl, _, rfl⟩ := hv3
          have Hc3 := Lib.hid hc3
          clear hints hc3
          unfold maxLen at hml3
          have hrm := Hokl.out.mask _ (getD_mem hlt2 (0, []))
          have hidx := Hokl.out.idx _ (getD_mem hlt2 (0, []))
          obtain ⟨r, hre⟩ : ∃ r, l.getD k (0, []) = r := ⟨_, rfl⟩
          rw [hre] at q1 q2 Hints Hc3 hml3 hrm hidx
          have Hre := Lib.hid hre
          have Hidx := Lib.hid hidx
          clear hre hidx
          obtain ⟨m0, all⟩ := r
          simp only at q1 q2 Hc3 hml3 hrm
          obtain ⟨m, rfl⟩ := Int.eq_ofNat_of_zero_le hrm.1
          have hk1 : (k : Int) < l.length := by omega
          have Hcell3 := Lib.hid (fun j hj => (((Hcw.out.trans Hcw2.out).alloc (.cells #[.int .i64 (m : Int), .slice a3 all.length cap3] 31)).cell (p := ⟨gb, offb + j, none⟩) (lt_of_cell (Hcellb.out j hj)) (by simp)).trans (Hcellb.out j hj))
          go_wp2
          go_loop [8, 30] (fun e jj => ∃ k : Nat, k ≤ all.length ∧ jj = .int .i64 (k : Nat) ∧ e = nv ((all.take k).foldl (fun e j => e &&& S.getD j.toNat 0) m)) (fun _ jj => all.length - (intOf jj).toNat)
          case atStart => exact ⟨0, by omega, rfl, by simp [nv]⟩
          case round =>
            obtain ⟨q, hq, rfl, rfl⟩ := hrel
            by_cases hlt3 : q < all.length
            · obtain ⟨g3, off3, rfl, _, hcell⟩ := Hc3.out (by simpa using by omega)
              have q3w : wr.cell? ⟨g3, off3 + q, none⟩ = some (.int .i64 (all.getD q 0)) := hcell q hlt3
              have q3 := (((Chg.refl [] wr).alloc (.cells #[.int .i64 (m : Int), .slice (some ⟨g3, off3, none⟩) all.length cap3] 31)).cell (p := ⟨g3, off3 + q, none⟩) (lt_of_cell q3w) (by simp)).trans q3w
              clear hcell
              obtain ⟨j0, hj1, hj2⟩ : ∃ j, all.getD q 0 = ((j : Nat) : Int) ∧ j < S.length := by
                obtain ⟨h1, h2⟩ := Hidx.out _ (getD_mem hlt3 0)
                obtain ⟨j, hj⟩ := Int.eq_ofNat_of_zero_le h1
                exact ⟨j, hj, by rw [Hlen.out]; omega⟩
              have hf := fold_take_succ (fun (e : Nat) (j : Int) => e &&& S.getD j.toNat 0) all q hlt3 m 0
              rw [hj1, Int.toNat_natCast] at hf
              rw [hj1] at q3 q3w
              have qb := Hcell3.out j0 hj2
              have lg3 := lt_of_cell q3
              have lgb := lt_of_cell qb
              have hle : (all.take q).foldl (fun e j => e &&& S.getD j.toNat 0) m ≤ univ := le_of_sub_univ (der_fold_le S (all.take q) m) (by unfold univ; omega)
              unfold univ at hle
              generalize (all.take q).foldl (fun e j => e &&& S.getD j.toNat 0) m = acc at hf hle
              have hsx : S.getD j0 0 ≤ 1048575 := HS.out _ (getD_mem hj2 0)
              generalize S.getD j0 0 = sx at hf qb hsx
              have hand : bits .and .i64 (acc : Int) (sx : Int) = ((acc &&& sx : Nat) : Int) := i64_and_nat _ _ (by omega) (by omega)
              unfold nv at qb ⊢
              have hq1 : (q : Int) < all.length := by omega
              have hj3 : (j0 : Int) < S.length := by omega
              have Hf := Lib.hid hf
              clear hf hj1
              go_wp2
              refine ⟨⟨q + 1, by omega, by go_num, ?_⟩, by simp [intOf]; omega⟩
              rw [Hf.out]
            · obtain rfl : q = all.length := by omega
              rw [List.take_length]
              have hde : der S ((m : Int), all) ≤ univ := der_univ hrm.2 S
              have hdd : all.foldl (fun e j => e &&& S.getD j.toNat 0) m = der S ((m : Int), all) := by simp [der]
              rw [hdd]
              have Hdd := Lib.hid hdd
              clear hdd
              generalize der S ((m : Int), all) = dv at hde Hdd ⊢
              have qb := Hcell3.out i (by rw [Hlen.out]; exact hlt)
              have lgb := lt_of_cell qb
              obtain ⟨sx, hsx⟩ : ∃ sx, S.getD i 0 = sx := ⟨_, rfl⟩
              rw [hsx] at qb hbi
              have Hsx := Lib.hid hsx
              clear hsx
              unfold univ at hde
              have hi2 : (i : Int) < S.length := by rw [Hlen.out]; omega
              have han : bits .andNot .i64 (dv : Int) (sx : Int) = ((andN dv sx : Nat) : Int) := i64_andNot_nat _ _ (by omega) (by omega)
              unfold nv at qb ⊢
              by_cases hz : andN dv sx = 0
              · have hzb : (((andN dv sx : Nat) : Int) != 0) = false := by rw [hz]; rfl
                have Hz := Lib.hid hz
                clear hz
                go_wp2
                exact ⟨⟨k + 1, by omega, by go_num, mem_take_succ hlt2 (0, []) Hn2.out (by rw [Hre.out, Hsx.out, show der S ((m : Int), all) = dv from by rw [← Hdd.out]; simp [der]]; exact Hz.out), Hcw2.out.alloc _⟩, by simp [intOf]; omega⟩
              · have hzb : (((andN dv sx : Nat) : Int) != 0) = true := by rw [bne_iff_ne]; omega
                have hsb : solB R S = false := solB_false hlt (by rw [Hle.out]; exact hlt2) (by rw [Hle.out, Hre.out, Hsx.out, show der S ((m : Int), all) = dv from by rw [← Hdd.out]; simp [der]]; exact hz)
                have Hsb := Lib.hid hsb
                clear hz hsb
                go_wp2
                go_ret
                exact ⟨by rw [Hsb.out]; rfl, (Hcw.out.trans Hcw2.out).alloc _⟩
        · obtain rfl : k = l.length := by omega
          have hrs : ∀ r ∈ l, andN (der S r) (S.getD i 0) = 0 := by have := Hn2.out; rw [List.take_length] at this; exact this
          have Hrs := Lib.hid hrs
          clear hrs
          go_wp2
          exact ⟨⟨i + 1, by omega, by go_num, fun j hj r hr => by
            by_cases e : j = i
            · subst e; rw [Hle.out] at hr; exact Hrs.out r hr
            · exact Hn.out j (by omega) r hr, Hcw.out.trans Hcw2.out⟩, by simp [intOf]; omega⟩
    · obtain rfl : i = R.length := by omega
      have hb : solB R S = true := solB_true Hn.out
      go_wp2
      go_ret
      exact ⟨by first | (rw [hb]; rfl) | rfl, Hcw.out⟩
end Go.Proofs.Ytaciceaipmclgaa
