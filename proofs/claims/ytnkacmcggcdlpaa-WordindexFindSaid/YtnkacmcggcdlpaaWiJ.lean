/- The law WordindexWords. -/
import Derived.Test.YtnkacmcggcdlpaaWiH
import Derived.Test.YtnkacmcggcdlpaaStill
namespace Go.Proofs.Ytnkacmcggcdlpaa
open Go.RowKit Go.ChangeMaps Go.MapKept Go.Shelf
set_option linter.unusedVariables false
set_option linter.unusedSimpArgs false
theorem bytesLess_iff : ∀ (a b : List UInt8), Op.bytesLess a b = true ↔ a < b := by
  intro a
  induction a with
  | nil => intro b; cases b <;> simp [Op.bytesLess]
  | cons x a ih =>
    intro b
    cases b with
    | nil => simp [Op.bytesLess]
    | cons y b =>
      unfold Op.bytesLess
      rw [List.cons_lt_cons_iff, Bool.or_eq_true, Bool.and_eq_true, decide_eq_true_iff, beq_iff_eq, ih]
theorem less_of {a b : ByteArray} (h : bl a < bl b) : Op.bytesLess a.toList b.toList = true := by
  rw [bytesLess_iff, ByteArray.toList_eq, ByteArray.toList_eq]
  exact h
structure WLaw (X Y W : List ByteArray) : Prop where
  lt : W.Pairwise fun a b => bl a < bl b
  mem : ∀ x, x ∈ W ↔ x ∈ X ∨ x ∈ Y
theorem wlaw (A B : ByteArray) (hA : A.size ≤ 200) (hB : B.size ≤ 200) : WLaw (words A) (words B) (words (A ++ ⟨#[32]⟩ ++ B)) := by
  have hs : (A ++ ⟨#[32]⟩ ++ B).size ≤ 700 := by
    rw [ByteArray.size_append, ByteArray.size_append]
    have : (⟨#[32]⟩ : ByteArray).size = 1 := rfl
    omega
  rw [words_all A (by omega), words_all B (by omega), words_all _ hs]
  exact ⟨wordsD_lt _, fun x => words_join_mem A B x⟩
theorem getD_eqS {l : List ByteArray} {i : Nat} (h : i < l.length) : l.getD i ⟨#[]⟩ = l[i] := by rw [List.getD_eq_getElem?_getD, List.getElem?_eq_getElem h]; rfl
set_option maxRecDepth 100000 in
set_option maxHeartbeats 8000000 in
theorem law_any (w : World) (a b : ByteArray) (ha : a.size ≤ maxLen) (hb : b.size ≤ maxLen) : Calls Try.prog 3 #[.string a, .string b] w fun e w' => e = .returned (.bool true) ∧ Chg [] w w' := by
  unfold maxLen at ha hb
  obtain ⟨an, han⟩ : ∃ tn : Nat, min (a.size : Int) 200 = tn := ⟨(min (a.size : Int) 200).toNat, by omega⟩
  obtain ⟨bn, hbn⟩ : ∃ tn : Nat, min (b.size : Int) 200 = tn := ⟨(min (b.size : Int) 200).toNat, by omega⟩
  have a1 : an ≤ a.size := by omega
  have a2 : an ≤ 200 := by omega
  have a3 : (an : Int) ≤ a.size := by omega
  have b1 : bn ≤ b.size := by omega
  have b2 : bn ≤ 200 := by omega
  have b3 : (bn : Int) ≤ b.size := by omega
  obtain ⟨A, hA⟩ : ∃ T, a.extract 0 an = T := ⟨_, rfl⟩
  obtain ⟨B, hB⟩ : ∃ T, b.extract 0 bn = T := ⟨_, rfl⟩
  have hAs : A.size ≤ 200 := by rw [← hA, ByteArray.size_extract]; omega
  have hBs : B.size ≤ 200 := by rw [← hB, ByteArray.size_extract]; omega
  have hL := Lib.hid (wlaw A B hAs hBs)
  have hA1 : ¬ ((9223372036854775807 : Int) < A.size + 1) := by omega
  have hA2 : (A ++ ⟨#[32]⟩).size = A.size + 1 := by rw [ByteArray.size_append]; rfl
  have hA3 : (9223372036854775807 : Int) < A.size + 1 + B.size → False := by omega
  go_enter Try.func3, Try.ntmps3
  go_wp2_with fail
  refine (example_any _).mono ?_
  rintro e w1 ⟨rfl, hc1⟩
  have H1 := Lib.hid hc1
  clear hc1
  go_wp2_with fail
  go_region
  go_wp2_with fail
  refine (words_any _ A (by omega)).mono ?_
  rintro e w2 ⟨aX, cX, rfl, hX, hc2⟩
  have H2 := Lib.hid (And.intro hX hc2)
  clear hX hc2
  go_wp2_with fail
  refine (words_any _ B (by omega)).mono ?_
  rintro e w3 ⟨aY, cY, rfl, hY, hc3⟩
  have H3 := Lib.hid (And.intro hY hc3)
  clear hY hc3
  go_wp2_with fail
  have hJs : (A ++ ⟨#[32]⟩ ++ B).size ≤ 2000 := by
    rw [ByteArray.size_append, ByteArray.size_append]
    have : (⟨#[32]⟩ : ByteArray).size = 1 := rfl
    omega
  refine (words_any _ _ hJs).mono ?_
  clear hJs hA1 hA2 hA3
  rintro e w4 ⟨aW, cW, rfl, hW, hc4⟩
  have hX4 : StrsP (fun g => w1.heap.size ≤ g ∧ g < w2.heap.size) w4 (.slice aX (words A).length cX) (words A) := (H2.out.1.same H3.out.2).same hc4
  have hY4 := H3.out.1.same hc4
  have hc04 : Chg [] w w4 := ((H1.out.drew.trans H2.out.2).trans H3.out.2).trans hc4
  revert hL hX4 hY4 hW
  generalize words A = X
  generalize words B = Y
  generalize words (A ++ ⟨#[32]⟩ ++ B) = Z
  intro HL hW hX4 hY4
  have HX := Lib.hid hX4
  have HY := Lib.hid hY4
  have HZ := Lib.hid hW
  have Hc4 := Lib.hid hc04
  obtain ⟨_, _, hsv, hXm, hXc⟩ := hX4.shape
  obtain ⟨_, _, hsv2, hYm, hYc⟩ := hY4.shape
  obtain ⟨_, _, hsv3, hZm, hZc⟩ := hW.shape
  cases hsv
  cases hsv2
  cases hsv3
  unfold maxLen at hXm hYm hZm
  clear hX4 hY4 hW hc04 hc4 H1 H2 H3
  go_wp2_with fail
  go_loopw [34] (fun i wr => ∃ k : Nat, k ≤ Z.length ∧ i = .int .i64 (k : Nat) ∧ Hid (Chg [] w4 wr)) (fun i _ => Z.length - (intOf i).toNat)
  case atStart => exact ⟨0, by omega, rfl, Lib.hid (Chg.refl _ _)⟩
  case round =>
    obtain ⟨k, hk, rfl, Hc⟩ := hrel
    by_cases hlt : k < Z.length
    · have hk1 : (k : Int) < Z.length := by omega
      obtain ⟨g, off, rfl, _, c0⟩ := (HZ.out.same Hc.out).cell k hlt
      obtain ⟨z, hz⟩ : ∃ r, Z.getD k ⟨#[]⟩ = r := ⟨_, rfl⟩
      have Hz := Lib.hid hz
      rw [hz] at c0
      have lg := lt_of_cell c0
      clear hz
      have hk0 : (0 : Int) ≤ (k : Int) := by omega
      have hzm : z ∈ X ∨ z ∈ Y := by
        have := (HL.out.mem Z[k]).1 (List.getElem_mem hlt)
        rwa [← getD_eqS hlt, Hz.out] at this
      have hm : memb z X = true ∨ memb z X = false ∧ memb z Y = true := by
        by_cases h : z ∈ X
        · exact Or.inl (memb_true h)
        · exact Or.inr ⟨memb_false h, memb_true (hzm.resolve_left h)⟩
      clear hzm
      have HcX := Lib.hid (fun (W : World) (h : Chg [] w4 W) => refContainsS _ W _ X z (HX.out.same h))
      have HcY := Lib.hid (fun (W : World) (h : Chg [] w4 W) => refContainsS _ W _ Y z (HY.out.same h))
      by_cases hkz : k = 0
      · have hkp : decide ((0 : Int) < (k : Int)) = false := decide_eq_false (by omega)
        have hkn : decide (0 < k) = false := decide_eq_false (by omega)
        rcases hm with hm | ⟨hm1, hm2⟩
        · rw [hm] at HcX
          clear hm hkz
          go_upto_region 8 with (fail)
          go_quiet ((go_at_call 7; first | (refine Calls.quiet_of_same (HcX.out _ ?_); first | exact Hc.out | exact Hc.out.drew | exact Hc.out.drewN _) | (refine Calls.quiet_of_same (HcY.out _ ?_); first | exact Hc.out | exact Hc.out.drew | exact Hc.out.drewN _)))
          go_wp2_with fail
          exact ⟨⟨k + 1, by omega, by go_num, Lib.hid (Hc.out.drewN _)⟩, by simp [intOf]; omega⟩
        · rw [hm1] at HcX
          rw [hm2] at HcY
          clear hm1 hm2 hkz
          go_upto_region 8 with (fail)
          go_quiet ((go_at_call 7; first | (refine Calls.quiet_of_same (HcX.out _ ?_); first | exact Hc.out | exact Hc.out.drew | exact Hc.out.drewN _) | (refine Calls.quiet_of_same (HcY.out _ ?_); first | exact Hc.out | exact Hc.out.drew | exact Hc.out.drewN _)))
          go_wp2_with fail
          exact ⟨⟨k + 1, by omega, by go_num, Lib.hid (Hc.out.drewN _)⟩, by simp [intOf]; omega⟩
      · have hkp : (0 : Int) < (k : Int) := by omega
        have hkn : decide (0 < k) = true := decide_eq_true (by omega)
        obtain ⟨j, hj⟩ : ∃ j : Nat, (k : Int) - 1 = (j : Int) := ⟨k - 1, by omega⟩
        have hjl : j < Z.length := by omega
        obtain ⟨g', off', he, _, c1⟩ := (HZ.out.same Hc.out).cell j hjl
        cases he
        obtain ⟨y, hy⟩ : ∃ r, Z.getD j ⟨#[]⟩ = r := ⟨_, rfl⟩
        rw [hy] at c1
        have hyz : Op.bytesLess y.toList z.toList = true := by
          refine less_of ?_
          rw [← hy, ← Hz.out, getD_eqS hjl, getD_eqS hlt]
          exact (List.pairwise_iff_getElem.1 HL.out.lt) j k hjl hlt (by omega)
        have hj1 : (j : Int) < Z.length := by omega
        have hj0 : (0 : Int) ≤ (j : Int) := by omega
        have hjw : IntKind.i64.wrap ((k : Int) - 1) = (j : Int) := by rw [IntWalk.i64_in _ (by omega), hj]
        clear hj hy
        rcases hm with hm | ⟨hm1, hm2⟩
        · rw [hm] at HcX
          clear hm hkz
          go_upto_region 8 with (fail)
          go_quiet ((go_at_call 7; first | (refine Calls.quiet_of_same (HcX.out _ ?_); first | exact Hc.out | exact Hc.out.drew | exact Hc.out.drewN _) | (refine Calls.quiet_of_same (HcY.out _ ?_); first | exact Hc.out | exact Hc.out.drew | exact Hc.out.drewN _)))
          go_wp2_with fail
          exact ⟨⟨k + 1, by omega, by go_num, Lib.hid (Hc.out.drewN _)⟩, by simp [intOf]; omega⟩
        · rw [hm1] at HcX
          rw [hm2] at HcY
          clear hm1 hm2 hkz
          go_upto_region 8 with (fail)
          go_quiet ((go_at_call 7; first | (refine Calls.quiet_of_same (HcX.out _ ?_); first | exact Hc.out | exact Hc.out.drew | exact Hc.out.drewN _) | (refine Calls.quiet_of_same (HcY.out _ ?_); first | exact Hc.out | exact Hc.out.drew | exact Hc.out.drewN _)))
          go_wp2_with fail
          exact ⟨⟨k + 1, by omega, by go_num, Lib.hid (Hc.out.drewN _)⟩, by simp [intOf]; omega⟩
    · have hk1 : ¬ ((k : Int) < Z.length) := by omega
      clear hlt
      go_wp2_with fail
      obtain ⟨w5, hw5⟩ : ∃ q, q = wr := ⟨_, rfl⟩
      have Hc5 := Hc
      rw [← hw5] at Hc5
      have HW5 := Lib.hid hw5
      clear hw5 hk1 hk Hc
      go_loopw [72] (fun i wr => ∃ k : Nat, k ≤ X.length ∧ i = .int .i64 (k : Nat) ∧ Hid (Chg [] w4 wr)) (fun i _ => X.length - (intOf i).toNat)
      case atStart => exact ⟨0, by omega, rfl, Lib.hid (by rw [← HW5.out]; exact Hc5.out)⟩
      case round =>
        obtain ⟨k, hk, rfl, Hc⟩ := hrel
        by_cases hlt : k < X.length
        · have hk1 : (k : Int) < X.length := by omega
          obtain ⟨g, off, rfl, _, c0⟩ := (HX.out.same Hc.out).cell k hlt
          obtain ⟨z, hz⟩ : ∃ r, X.getD k ⟨#[]⟩ = r := ⟨_, rfl⟩
          rw [hz] at c0
          have lg := lt_of_cell c0
          have hk0 : (0 : Int) ≤ (k : Int) := by omega
          have hzm : z ∈ Z := (HL.out.mem z).2 (Or.inl (by rw [← hz, getD_eqS hlt]; exact List.getElem_mem hlt))
          have HcZ := Lib.hid (fun (W : World) (h : Chg [] w4 W) => refContainsS _ W _ Z z (HZ.out.same h))
          rw [memb_true hzm] at HcZ
          clear hz hzm
          go_wp2_with fail
          (first | refine (HcZ.out _ Hc.out).mono ?_ | refine (HcZ.out _ Hc.out.drew).mono ?_)
          rintro e w6 ⟨rfl, rfl⟩
          go_wp2_with fail
          exact ⟨⟨k + 1, by omega, by go_num, Lib.hid (by first | exact Hc.out | exact Hc.out.drew)⟩, by simp [intOf]; omega⟩
        · have hk1 : ¬ ((k : Int) < X.length) := by omega
          clear hlt
          go_wp2_with fail
          obtain ⟨w6, hw6⟩ : ∃ q, q = wr := ⟨_, rfl⟩
          have Hc6 := Hc
          rw [← hw6] at Hc6
          have HW6 := Lib.hid hw6
          clear hw6 hk1 hk Hc
          go_loopw [85] (fun i wr => ∃ k : Nat, k ≤ Y.length ∧ i = .int .i64 (k : Nat) ∧ Hid (Chg [] w4 wr)) (fun i _ => Y.length - (intOf i).toNat)
          case atStart => exact ⟨0, by omega, rfl, Lib.hid (by rw [← HW6.out]; exact Hc6.out)⟩
          case round =>
            obtain ⟨k, hk, rfl, Hc⟩ := hrel
            by_cases hlt : k < Y.length
            · have hk1 : (k : Int) < Y.length := by omega
              obtain ⟨g, off, rfl, _, c0⟩ := (HY.out.same Hc.out).cell k hlt
              obtain ⟨z, hz⟩ : ∃ r, Y.getD k ⟨#[]⟩ = r := ⟨_, rfl⟩
              rw [hz] at c0
              have lg := lt_of_cell c0
              have hk0 : (0 : Int) ≤ (k : Int) := by omega
              have hzm : z ∈ Z := (HL.out.mem z).2 (Or.inr (by rw [← hz, getD_eqS hlt]; exact List.getElem_mem hlt))
              have HcZ := Lib.hid (fun (W : World) (h : Chg [] w4 W) => refContainsS _ W _ Z z (HZ.out.same h))
              rw [memb_true hzm] at HcZ
              clear hz hzm
              go_wp2_with fail
              (first | refine (HcZ.out _ Hc.out).mono ?_ | refine (HcZ.out _ Hc.out.drew).mono ?_)
              rintro e w6 ⟨rfl, rfl⟩
              go_wp2_with fail
              exact ⟨⟨k + 1, by omega, by go_num, Lib.hid (by first | exact Hc.out | exact Hc.out.drew)⟩, by simp [intOf]; omega⟩
            · have hk1 : ¬ ((k : Int) < Y.length) := by omega
              clear hlt
              go_wp2_with fail
              refine (example_any _).mono ?_
              rintro e w9 ⟨rfl, hc9⟩
              have H9 := Lib.hid (Hc.out.trans hc9)
              clear hc9
              go_wp2_with fail
              go_ret
              exact ⟨rfl, Hc4.out.trans H9.out⟩
end Go.Proofs.Ytnkacmcggcdlpaa
