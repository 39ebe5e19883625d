/- Protocol messages: the parts of Encode. -/
import Derived.Test.YtiklgipcgdgkoaaDoorJvC
namespace Go.Proofs.YtiklgipcgdgkoaaDoor.Jv
open Go.RowKit Go.ChangeMaps Go.MapKept
set_option linter.unusedVariables false
set_option linter.unusedSimpArgs false
def zV : Value := .agg #[.int .i64 0, .int .i64 0, .string ⟨#[]⟩, .slice none 0 0, .slice none 0 0]
set_option maxHeartbeats 4000000 in
theorem number_any (n : Int) (w : World) : Calls Tryd.prog 53 #[.int .i64 n] w fun e w' => e = .returned (.agg #[.int .i64 2, .int .i64 n, .string ⟨#[]⟩, .slice none 0 0, .slice none 0 0]) ∧ Chg [] w w' := by
  go_enter Tryd.func53, Tryd.ntmps53
  go_wp2_with fail
  refine bodyPost_ret (v := .agg #[.int .i64 2, .int .i64 n, .string ⟨#[]⟩, .slice none 0 0, .slice none 0 0]) (by simp [results, Tryd.results53, go_sem]) rfl ?_
  exact ⟨rfl, (Chg.refl _ _).alloc _⟩
set_option maxHeartbeats 4000000 in
theorem textV_any (s : ByteArray) (w : World) : Calls Tryd.prog 54 #[.string s] w fun e w' => e = .returned (.agg #[.int .i64 3, .int .i64 0, .string s, .slice none 0 0, .slice none 0 0]) ∧ Chg [] w w' := by
  go_enter Tryd.func54, Tryd.ntmps54
  go_wp2_with fail
  refine bodyPost_ret (v := .agg #[.int .i64 3, .int .i64 0, .string s, .slice none 0 0, .slice none 0 0]) (by simp [results, Tryd.results54, go_sem]) rfl ?_
  exact ⟨rfl, (Chg.refl _ _).alloc _⟩
set_option maxHeartbeats 4000000 in
theorem object_any (na ia : Option Addr) (nl nc il ic : Nat) (w : World) : Calls Tryd.prog 37 #[.slice na nl nc, .slice ia il ic] w fun e w' => e = .returned (.agg #[.int .i64 5, .int .i64 0, .string ⟨#[]⟩, .slice na nl nc, .slice ia il ic]) ∧ Chg [] w w' := by
  go_enter Tryd.func37, Tryd.ntmps37
  go_wp2_with fail
  refine bodyPost_ret (v := .agg #[.int .i64 5, .int .i64 0, .string ⟨#[]⟩, .slice na nl nc, .slice ia il ic]) (by simp [results, Tryd.results37, go_sem]) rfl ?_
  exact ⟨rfl, (Chg.refl _ _).alloc _⟩
set_option maxHeartbeats 4000000 in
theorem isNull_zero (w : World) : Calls Tryd.prog 36 #[.agg #[.int .i64 0, .int .i64 0, .string ⟨#[]⟩, .slice none 0 0, .slice none 0 0]] w fun e w' => e = .returned (.bool true) ∧ Chg [] w w' := by
  go_enter Tryd.func36, Tryd.ntmps36
  go_wp2_with fail
  go_ret
  exact ⟨rfl, (Chg.refl _ _).alloc _⟩
set_option maxHeartbeats 4000000 in
theorem validText_any (s : ByteArray) (m : Nat) (w : World) (hT : Tb w) (h0 : m ≤ s.size) (h1 : s.size ≤ 60) (hu : u8 s = true) : Calls Tryd.prog 44 #[.string s, .int .i64 (m : Nat)] w fun e w' => e = .returned (.bool true) ∧ Chg [] w w' := by
  have H := Lib.hid (valid_str s w (by unfold maxLen; omega) hT)
  rw [hu] at H
  have d0 : decide ((m : Int) ≤ s.size) = true := decide_eq_true (by omega)
  have d1 : decide ((s.size : Int) ≤ 60) = true := decide_eq_true (by omega)
  clear hT hu
  go_enter Tryd.func44, Tryd.ntmps44
  go_wp2_with fail
  refine H.out.mono ?_
  rintro e w1 ⟨rfl, hc⟩
  have Hc := Lib.hid hc
  clear hc
  go_wp2_with fail
  go_ret
  exact ⟨rfl, Hc.out⟩
/-- a message without a body, as a value -/
def mV (k i c : Int) (t : ByteArray) : Value := .agg #[.int .i64 k, .int .i64 i, .int .i64 c, .string t, .int .i64 0, .int .i64 0, .string ⟨#[]⟩, .slice none 0 0, .slice none 0 0]
set_option maxHeartbeats 4000000 in
theorem validMethod_any (k i c : Int) (t : ByteArray) (w : World) (hT : Tb w) (h : (k = 1 ∧ 1 ≤ t.size ∧ t.size ≤ 60 ∧ u8 t = true) ∨ (k = 4 ∧ t.size ≤ 60 ∧ u8 t = true) ∨ ((k = 3 ∨ k = 5) ∧ t = ⟨#[]⟩)) : Calls Tryd.prog 50 #[mV k i c t] w fun e w' => e = .returned (.bool true) ∧ Chg [] w w' := by
  unfold mV
  have HT := Lib.hid hT
  rcases h with ⟨rfl, h1, h2, h3⟩ | ⟨rfl, h2, h3⟩ | ⟨hk, rfl⟩
  · have H := Lib.hid (fun W (hc : Chg [] w W) => validText_any t 1 W (HT.out.new hc) h1 h2 h3)
    have Hc := Lib.hid ((Chg.refl [] w).alloc (.cells #[.int .i64 1, .int .i64 i, .int .i64 c, .string t, .int .i64 0, .int .i64 0, .string ⟨#[]⟩, .slice none 0 0, .slice none 0 0] 27))
    clear hT h3
    go_enter Tryd.func50, Tryd.ntmps50
    go_wp2_with fail
    refine (H.out _ Hc.out).mono ?_
    rintro e w1 ⟨rfl, hc⟩
    have Hc2 := Lib.hid (Hc.out.trans hc)
    clear hc
    go_wp2_with fail
    go_ret
    exact ⟨rfl, Hc2.out⟩
  · have H := Lib.hid (fun W (hc : Chg [] w W) => validText_any t 0 W (HT.out.new hc) (by omega) h2 h3)
    have Hc := Lib.hid ((Chg.refl [] w).alloc (.cells #[.int .i64 4, .int .i64 i, .int .i64 c, .string t, .int .i64 0, .int .i64 0, .string ⟨#[]⟩, .slice none 0 0, .slice none 0 0] 27))
    clear hT h3
    go_enter Tryd.func50, Tryd.ntmps50
    go_wp2_with fail
    refine (H.out _ Hc.out).mono ?_
    rintro e w1 ⟨rfl, hc⟩
    have Hc2 := Lib.hid (Hc.out.trans hc)
    clear hc
    go_wp2_with fail
    go_ret
    exact ⟨rfl, Hc2.out⟩
  · rcases hk with rfl | rfl
    · go_enter Tryd.func50, Tryd.ntmps50
      go_wp2_with fail
      go_ret
      exact ⟨rfl, (Chg.refl _ _).alloc _⟩
    · go_enter Tryd.func50, Tryd.ntmps50
      go_wp2_with fail
      go_ret
      exact ⟨rfl, (Chg.refl _ _).alloc _⟩
end Go.Proofs.YtiklgipcgdgkoaaDoor.Jv
