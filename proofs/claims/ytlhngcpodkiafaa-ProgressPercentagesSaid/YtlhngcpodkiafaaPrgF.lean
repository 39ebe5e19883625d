/- ProgressPercentages: the law's walk. -/
import Derived.Test.YtlhngcpodkiafaaPrgE
import Derived.Test.YtlhngcpodkiafaaMod
import Derived.Deep.DeepCutAuto
import Derived.IntWalk
namespace Go.Proofs.Ytlhngcpodkiafaa
open Go.RowKit
set_option linter.unusedVariables false
/-- is the work completed? -/
def fin (t : Int) (l : List Int) : Bool := l.any fun n => decide (t ≤ n)
theorem fin_snoc (t : Int) (l : List Int) (x : Int) : fin t (l ++ [x]) = (fin t l || decide (t ≤ x)) := by simp [fin]
theorem fin_iff (t : Int) (l : List Int) : fin t l = true ↔ ∃ n ∈ l, t ≤ n := by simp [fin]
set_option maxRecDepth 100000 in
set_option maxHeartbeats 2000000 in
theorem percentagesLaw_any (w : World) (v : Value) (xs : List Int) (t0 s0 : Int) (hI : IntsC w v xs) :
    Calls Try.prog 3 #[v, .int .i64 t0, .int .i64 s0] w fun e w' => e = .returned (.bool true) ∧ Chg [] w w' := by
  obtain ⟨a, cap, rfl, hcap1, hcap2⟩ := hI.shape
  unfold maxLen at hcap2
  have HI := Lib.hid hI
  clear hI
  go_enter Try.func3, Try.ntmps3
  go_wp2_with fail
  refine (chunkExample_any _).mono ?_
  rintro e w1 ⟨rfl, c1⟩
  go_wp2_with fail
  refine (mod_any t0 1000000 _ (by decide) (by decide)).mono ?_
  rintro e w1' ⟨rfl, rfl⟩
  have hb1 := modI_bd t0 1000000 (by decide)
  obtain ⟨mt, hmt⟩ : ∃ x, x = modI t0 1000000 := ⟨_, rfl⟩
  rw [← hmt] at hb1
  rw [← hmt]
  clear hmt
  go_wp2_with fail
  refine (mod_any s0 100 _ (by decide) (by decide)).mono ?_
  rintro e w1' ⟨rfl, rfl⟩
  have hb2 := modI_bd s0 100 (by decide)
  obtain ⟨ms, hms⟩ : ∃ x, x = modI s0 100 := ⟨_, rfl⟩
  rw [← hms] at hb2
  rw [← hms]
  clear hms
  have C1 := Lib.hid c1
  clear c1
  go_upto_region 4 with (fail)
  go_cut [0] (fun v wx => (∃ (n : Nat) (ys : List Int), v = .slice a n cap ∧ Hid (ys.length = n) ∧ n ≤ 100 ∧ n ≤ cap ∧ Hid (IntsC wx (.slice a n cap) ys)) ∧ wx = w1)
  case first =>
    have h1 := Lib.hid (HI.out.same C1.out)
    by_cases h : xs.length ≤ 100
    · go_wp2
      go_meet
      exact ⟨⟨xs.length, xs, rfl, Lib.hid rfl, h, hcap1, h1⟩, rfl⟩
    · have h2 := Lib.hid (h1.out.take 100 (by omega))
      have h3 := Lib.hid (show (xs.take 100).length = 100 by rw [List.length_take]; omega)
      go_wp2
      go_meet
      exact ⟨⟨100, _, rfl, h3, by decide, by omega, h2⟩, rfl⟩
  case rest =>
    obtain ⟨⟨n, ys, rfl, Hn, hn1, hn2, HI2⟩, rfl⟩ := hcut
    go_wp2_with fail
    have hI3 := HI2.out
    rw [← Hn.out] at hI3
    rw [← Hn.out]
    refine (percentages_any (1 + mt) (1 + ms) _ ys _ hI3 (by rw [Hn.out]; omega) (by omega) (by omega) (by omega) (by omega)).mono ?_
    rw [Hn.out]
    rintro e w2 ⟨v2, rep, l, rfl, hrep, hown, c2⟩
    obtain ⟨av, cv, rfl⟩ := ownsRow_shape hown
    have hcel := fun k hk => (hI3.same c2).at k hk
    have hrc : ∀ k, k < rep.length → ∃ g, av = some ⟨g, 0, none⟩ ∧ w2.cell? ⟨g, k, none⟩ = some (.int .i64 (rep.getD k 0)) := fun k hk => by
      rcases hown.2 with ⟨_, h0⟩ | ⟨g, cap', cur, hv, h1, h2, h3, h4, h5, h6⟩
      · omega
      · cases hv
        have := hown.cells (g := g) rfl k (.int .i64 (rep.getD k 0)) (by simp [hk])
        rw [Addr.add_lit, Nat.zero_add] at this
        exact ⟨g, rfl, this⟩
    have hrl : rep.length ≤ 100 := by have := hrep.len; have := Hn.out; omega
    have Hrep := Lib.hid hrep
    have Hcel := Lib.hid hcel
    have Hrc := Lib.hid hrc
    have C2 := Lib.hid (C1.out.trans c2)
    clear hI3 hrep hown c2 hcel hrc
    go_wp2
    go_loop [9, 10, 36] (fun f _ i => ∃ k : Nat, k ≤ n ∧ i = .int .i64 (k : Nat) ∧ f = .bool (fin (1 + mt) (ys.take k))) (fun _ _ i => n - (intOf i).toNat)
    case atStart => exact ⟨0, by omega, rfl, rfl⟩
    case round =>
      obtain ⟨k, hk, rfl, rfl⟩ := hrel
      by_cases hlt : k < n
      · obtain ⟨g, off, rfl, q0⟩ := Hcel.out k (by rw [Hn.out]; exact hlt)
        obtain ⟨x, hxk⟩ : ∃ x, ys.getD k 0 = x := ⟨_, rfl⟩
        rw [hxk] at q0
        have Hs := Lib.hid (show fin (1 + mt) (ys.take (k + 1)) = (fin (1 + mt) (ys.take k) || decide (1 + mt ≤ x)) by rw [fold_take_snoc ys k (by rw [Hn.out]; exact hlt) 0, fin_snoc, hxk])
        clear hxk
        have hk1 : (k : Int) < n := by omega
        obtain ⟨f, hf⟩ : ∃ f, fin (1 + mt) (ys.take k) = f := ⟨_, rfl⟩
        have Hf := Lib.hid hf
        rw [hf]
        clear hf
        cases f
        · by_cases hx : 1 + mt ≤ x
          · go_wp2
            go_round
            case rel => exact ⟨k + 1, by omega, by go_num, by rw [Hs.out, Hf.out]; simp [hx]⟩
            case measure => simp [intOf]; omega
          · go_wp2
            go_round
            case rel => exact ⟨k + 1, by omega, by go_num, by rw [Hs.out, Hf.out]; simp [hx]⟩
            case measure => simp [intOf]; omega
        · go_wp2
          go_round
          case rel => exact ⟨k + 1, by omega, by go_num, by rw [Hs.out, Hf.out]; simp⟩
          case measure => simp [intOf]; omega
      · obtain rfl : k = n := by omega
        obtain ⟨f, hf⟩ : ∃ f, fin (1 + mt) (ys.take k) = f := ⟨_, rfl⟩
        rw [hf]
        rw [List.take_of_length_le (by rw [Hn.out]; exact Nat.le_refl _)] at hf
        have hfl : l = 100 ↔ f = true := by rw [← hf, fin_iff]; exact Hrep.out.fin
        have Hfl := Lib.hid hfl
        clear hf hfl
        go_wp2
        go_loopw [11, 51] (fun _ i wr => ∃ k nd : Nat, k ≤ rep.length ∧ i = .int .i64 (k : Nat) ∧ wr = w2.drewN nd) (fun _ i _ => rep.length - (intOf i).toNat)
        case atStart => exact ⟨0, 0, by omega, rfl, rfl⟩
        case round =>
          obtain ⟨q, nd, hq, rfl, rfl⟩ := hrel
          by_cases hlt2 : q < rep.length
          · obtain ⟨g, hav, q1w⟩ := Hrc.out q hlt2
            have q1 : w2.cell? ⟨g, q, none⟩ = some (.int .i64 (rep.getD q 0)) := q1w
            have hy := Hrep.out.at q hlt2
            have hz := fun h => Hrep.out.lt (q - 1) h
            have hq1 : (q : Int) < rep.length := by omega
            have hq0 : (0 : Int) ≤ q := by omega
            obtain ⟨y, hyq⟩ : ∃ y, rep.getD q 0 = y := ⟨_, rfl⟩
            rw [hyq] at q1 hy
            have hd1 : decide (y < 1) = false := by simp; omega
            have hd2 : decide (100 < y) = false := by simp; omega
            rcases Nat.eq_zero_or_pos q with h0 | h0
            · subst h0
              subst hav
              have hr0 : (0 : Int) < (rep.length : Int) := by omega
              clear hz hyq q1w hq1 hq0
              go_wp2
              go_quiet (fail)
              go_wp2
              go_roundw
              case rel => exact ⟨1, _, by omega, rfl, rfl⟩
              case measure => simp [intOf]; omega
            · obtain ⟨m, rfl⟩ : ∃ m, q = m + 1 := ⟨q - 1, by omega⟩
              rw [Nat.add_sub_cancel] at hz
              have hz2 := hz hlt2
              rw [hyq] at hz2
              obtain ⟨g', hav', q2w⟩ := Hrc.out m (by omega)
              have q2 : w2.cell? ⟨g', m, none⟩ = some (.int .i64 (rep.getD m 0)) := q2w
              obtain ⟨z, hzq⟩ : ∃ z, rep.getD m 0 = z := ⟨_, rfl⟩
              rw [hzq] at q2 hz2
              subst hav
              cases hav'
              have hm1 : (0 : Int) < (m : Int) + 1 := by omega
              have hm2 : (m : Int) + 1 - 1 = m := by omega
              have hd3 : decide (y ≤ z) = false := by simp; omega
              have hr0 : (m : Int) + 1 < (rep.length : Int) := by omega
              have hr1 : (0 : Int) ≤ (m : Int) + 1 := by omega
              have hr2 : ((m : Int) + 1).toNat = m + 1 := by omega
              have hr3 : (m : Int) < (rep.length : Int) := by omega
              have hr4 : IntKind.i64.wrap ((m : Int) + 1 - 1) = m := by rw [hm2]; exact IntWalk.i64_in _ (by omega)
              clear hq1 hq0
              clear hz hyq hzq q1w q2w
              go_wp2
              go_quiet (fail)
              go_wp2
              go_roundw
              case rel => exact ⟨m + 1 + 1, _, by omega, by go_num, rfl⟩
              case measure => simp [intOf]; omega
          · obtain rfl : q = rep.length := by omega
            go_wp2_with fail
            refine (chunkExample_any _).mono ?_
            rintro e w3 ⟨rfl, c3⟩
            have C3 := Lib.hid ((C2.out.drewN nd).trans c3)
            rcases Nat.eq_zero_or_pos rep.length with h0 | h0
            · have hl0 : l = 0 := by
                have h1 := List.eq_nil_of_length_eq_zero h0
                rw [Hrep.out.last, h1]; rfl
              have hff : f = false := by
                cases f
                · rfl
                · have := Hfl.out.2 rfl; omega
              rw [h0]
              subst hff
              clear h0 hl0 c3
              go_wp2
              go_ret
              exact ⟨rfl, C3.out⟩
            · obtain ⟨m, hm⟩ : ∃ m, rep.length = m + 1 := ⟨rep.length - 1, by omega⟩
              obtain ⟨g, hav, q1w⟩ := Hrc.out m (by omega)
              have q1 := (c3.cell (p := ⟨g, m, none⟩) (show g < (w2.drewN nd).heap.size from lt_of_cell q1w) (by simp)).trans q1w
              have hll : rep.getD m 0 = l := by
                rw [Hrep.out.last, List.getLastD_eq_getLast?, List.getLast?_eq_getElem?, hm, Nat.add_sub_cancel, List.getD_eq_getElem?_getD]
              rw [hll] at q1
              have hff : f = (l == 100) := by
                have := Hfl.out
                cases f
                · by_cases h : l = 100
                  · exact absurd (this.1 h) (by simp)
                  · simp [h]
                · simp [this.2 rfl]
              rw [hm]
              subst hav
              have Hff := Lib.hid hff
              have hm3 : m ≤ 100 := by omega
              clear hm h0 hll hff c3 q1w
              go_wp2
              go_ret
              exact ⟨ret_bool (by rw [Hff.out]; simp), C3.out⟩
end Go.Proofs.Ytlhngcpodkiafaa
