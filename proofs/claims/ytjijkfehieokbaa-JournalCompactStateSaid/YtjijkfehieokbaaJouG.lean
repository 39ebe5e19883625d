/- JournalRoundTrip: the walk. -/
import Derived.Test.YtjijkfehieokbaaJouF
namespace Go.Proofs.Ytjijkfehieokbaa
open Go.RowKit
set_option maxHeartbeats 2000000 in
theorem roundTrip_any (w : World) (v : Value) (rl : List Rec) (h : RecsAt w v rl) :
    Calls Try.prog 3 #[v] w fun e w' => e = .returned (.bool true) ∧ Chg [] w w' := by
  go_enter Try.func3, Try.ntmps3
  go_wp2_with fail
  refine (journalExample_any _).mono ?_
  rintro e w1 ⟨rfl, c1⟩
  go_wp2_with fail
  refine (written_any _ v rl (h.same c1)).mono ?_
  rintro e w2 ⟨c2, rs, vv, rfl, hown, hl12, hlen, hok⟩
  have Hown := Lib.hid hown
  have Hok := Lib.hid hok
  clear hown hok
  have hsz : (bs (logOf rs)).size = (logOf rs).length := bs_size _
  go_wp2_with fail
  refine (read_any _ _ (by omega)).mono ?_
  rintro e w3 ⟨c3, v3, rs3, n3, rfl, hown3, hrd⟩
  rw [bs_data, scan_whole rs Hok.out] at hrd ⊢
  obtain ⟨e3, rfl⟩ := hrd rfl
  subst e3
  have r1 := (Hown.out.same c3).recs
  have r2 := hown3.recs
  have R1 := Lib.hid r1
  have R2 := Lib.hid r2
  clear hown3 hrd r1 r2
  have hnn : (((logOf rs3).length : Int) == ((bs (logOf rs3)).size : Int)) = true := by rw [hsz]; simp
  have hlz : ((logOf rs3).length : Int) = ((bs (logOf rs3)).size : Int) := by rw [hsz]
  clear hsz
  go_wp2_with fail
  refine (journalExample_any _).mono ?_
  rintro e w4 ⟨rfl, c4⟩
  have R3 := Lib.hid (R1.out.same c4)
  have R4 := Lib.hid (R2.out.same c4)
  go_wp2_with fail
  refine (recsEqual_any _ _ _ rs3 R4.out R3.out).mono ?_
  rintro e w5 ⟨rfl, c5⟩
  go_wp2
  go_ret
  exact ⟨rfl, ((((c1.trans c2).trans c3).trans c4).trans c5)⟩
end Go.Proofs.Ytjijkfehieokbaa
