/- JournalTornWrite: the walk. -/
import Derived.Test.YtjijkfehieokbaaJouH
namespace Go.Proofs.Ytjijkfehieokbaa
open Go.RowKit
set_option linter.unusedVariables false
set_option maxRecDepth 100000 in
set_option maxHeartbeats 2000000 in
theorem tornWrite_any (w : World) (v : Value) (x : Int) (rl : List Rec) (h : RecsAt w v rl) :
    Calls Try.prog 4 #[v, .int .i64 x] w fun e w' => e = .returned (.bool true) ∧ Chg [] w w' := by
  go_enter Try.func4, Try.ntmps4
  go_wp2_with fail
  refine (journalExample_any _).mono ?_
  rintro e w1 ⟨rfl, c1⟩
  go_wp2_with fail
  refine (written_any _ v rl (h.same c1)).mono ?_
  rintro e w2 ⟨c2, rs, vv, rfl, hown, hl12, hlen, hok⟩
  have Hown := Lib.hid hown
  have Hok := Lib.hid hok
  clear hown hok
  have hsz : (bs (logOf rs)).size = (logOf rs).length := bs_size _
  obtain ⟨L, hL⟩ : ∃ L, bs (logOf rs) = L := ⟨_, rfl⟩
  rw [hL] at hsz ⊢
  have HL := Lib.hid hL
  have hLn : L.size ≤ 40000 := by omega
  have Hsz := Lib.hid hsz
  clear hL hsz
  go_wp2_with fail
  refine (mod_any x ((L.size : Int) + 1) _ (by omega) (by omega)).mono ?_
  rintro e w2' ⟨rfl, rfl⟩
  obtain ⟨hm0, hm1⟩ := modI_bd x ((L.size : Int) + 1) (by omega)
  obtain ⟨c, hc⟩ := Int.eq_ofNat_of_zero_le hm0
  rw [hc] at hm1 ⊢
  have hcs : c ≤ L.size := by omega
  have hcs' : (c : Int) ≤ (L.size : Int) := by omega
  clear hc hm0 hm1
  have htk : (L.extract 0 c).data.toList = (logOf rs).take c := by rw [← HL.out, Lib.extract_data, bs_data]; simp
  obtain ⟨m, t1, t2, t3, t4, t5⟩ := torn rs c Hok.out (by rw [← Hsz.out]; exact hcs)
  have hcz : (L.extract 0 c).size ≤ 40000 := by simp; omega
  go_wp2_with fail
  refine (read_any _ _ hcz).mono ?_
  rintro e w3 ⟨c3, v3, rs3, n3, rfl, hown3, hrd⟩
  rw [htk, t2] at hrd ⊢
  obtain ⟨rfl, rfl⟩ := hrd rfl
  go_wp2_with fail
  refine (recover_any _ _ hcz).mono ?_
  rintro e w4 ⟨c4, v4, rfl, hown4⟩
  rw [htk, t2] at hown4 ⊢
  rw [show List.take (logOf (rs.take m)).length (List.take c (logOf rs)) = logOf (rs.take m) from by
    rw [List.take_take, Nat.min_eq_left t3]; conv => lhs; rw [logOf_take rs m]; simp]
  have hLM := log_prefix rs m
  rw [HL.out] at hLM
  have hLz : (bs (logOf (rs.take m))).size = (logOf (rs.take m)).length := bs_size _
  obtain ⟨n, hn⟩ : ∃ n, (logOf (rs.take m)).length = n := ⟨_, rfl⟩
  rw [hn] at t3 hLM hLz ⊢
  have Hn := Lib.hid hn
  have HLz := Lib.hid hLz
  have HLM := Lib.hid hLM
  clear hn hLz hLM
  have hnc : (n : Int) ≤ c := by omega
  have hn0 : (0 : Int) ≤ n := by omega
  have hnL : (n : Int) ≤ (L.size : Int) := by omega
  have own2 := (Hown.out.same c3).same c4
  obtain ⟨v5, hs5, R5⟩ := own_slice own2 m t1
  have R5' := Lib.hid R5
  obtain ⟨av, capv, rfl, hpv⟩ := own2.shape
  have Rv := Lib.hid own2.recs
  have r3 := Lib.hid (hown3.same c4).recs
  have r4 := Lib.hid hown4.recs
  obtain ⟨a3, cap3, rfl, _⟩ := hown3.shape
  rw [show (rs.take m).length = m from by simp; omega] at r3 ⊢
  have hpre := HLM.out
  have hml : (m : Int) ≤ rs.length := by omega
  have Hpv := Lib.hid hpv
  have T4 := Lib.hid t4
  have T5 := Lib.hid t5
  clear hown3 hrd hown4 own2 R5 hpv htk t2 t4 t5
  go_wp2_with fail
  refine (recsEqual_any _ _ _ (rs.take m) r3.out r4.out).mono ?_
  rintro e w5 ⟨rfl, c5⟩
  go_wp2_with fail
  refine (recsEqual_any _ _ _ (rs.take m) (r3.out.same c5) (R5'.out.same c5)).mono ?_
  rintro e w6 ⟨rfl, c6⟩
  have c06 : Chg [] w w6 := (((((c1.trans c2).trans c3).trans c4).trans c5).trans c6)
  by_cases hlt : m < rs.length
  · have hlt' : (m : Int) < rs.length := by omega
    obtain ⟨g, rfl⟩ := Hpv.out (by omega)
    obtain ⟨q0, q1, q2⟩ := ((Rv.out.same c5).same c6).at m hlt
    simp only [Nat.zero_add] at q0 q1 q2
    have hap := append_next Hok.out hlt (by rw [← Hsz.out]; exact hLn)
    obtain ⟨⟨key, val, del⟩, hr⟩ : ∃ r, rs.getD m Rec.zero = r := ⟨_, rfl⟩
    rw [hr] at hap q0 q1 q2
    simp only at q0 q1 q2
    have Hap := Lib.hid hap
    clear hr hap
    go_wp2_with fail
    refine (append_any _ ⟨key, val, del⟩ _ (by rw [HLz.out]; omega)).mono ?_
    rintro e w7 ⟨rfl, c7⟩
    rw [bs_data, Hap.out]
    have hLN := log_prefix rs (m + 1)
    rw [HL.out] at hLN
    have hNz : (bs (logOf (rs.take (m + 1)))).size = (logOf (rs.take (m + 1))).length := bs_size _
    have hNL : (logOf (rs.take (m + 1))).length ≤ L.size := by
      have := congrArg List.length (logOf_take rs (m + 1))
      rw [List.length_append] at this
      rw [Hsz.out]
      omega
    have hcN := T5.out hlt
    rw [← hNz] at hLN hNL hcN
    generalize bs (logOf (rs.take (m + 1))) = N at hLN hNL hcN ⊢
    clear hNz
    have hcN' : (c : Int) < (N.size : Int) := by omega
    have hNL' : (N.size : Int) ≤ (L.size : Int) := by omega
    go_wp2_with fail
    refine (journalExample_any _).mono ?_
    rintro e w8 ⟨rfl, c8⟩
    go_wp2
    go_ret
    exact ⟨rfl, (c06.trans c7).trans c8⟩
  · have hce : c = L.size := by rw [Hsz.out]; exact T4.out (by omega)
    have hcb : ((c : Int) == (L.size : Int)) = true := by rw [hce]; simp
    clear hce
    go_wp2_with fail
    refine (journalExample_any _).mono ?_
    rintro e w8 ⟨rfl, c8⟩
    go_wp2
    go_ret
    exact ⟨rfl, c06.trans c8⟩
end Go.Proofs.Ytjijkfehieokbaa
