/- Protocol messages with any body: isNull, validText, validMethod, wellFormed. -/
import Derived.Test.YtiklgipcgdgkoaaDoorJsB
namespace Go.Proofs.YtiklgipcgdgkoaaDoor.Jv
open Go.RowKit Go.ChangeMaps Go.MapKept
set_option linter.unusedVariables false
set_option linter.unusedSimpArgs false
/-- is a value null -/
def isN (e : Ev) : Bool := decide (e.k = 0) && (decide (e.n = 0) && (decide (e.t = ⟨#[]⟩) && decide (e.nl + e.il = 0)))
theorem box5 (b : Nat) {w : World} {e : Ev} (h : w.heap[b]? = some (.cells #[.int .i64 e.k, .int .i64 e.n, .string e.t, .slice e.na e.nl e.nc, .slice e.ia e.il e.ic] 25 (0, 0))) :
    w.cell? ⟨b, 0, none⟩ = some (.int .i64 e.k) ∧ w.cell? ⟨b, 1, none⟩ = some (.int .i64 e.n) ∧ w.cell? ⟨b, 2, none⟩ = some (.string e.t) ∧ w.cell? ⟨b, 3, none⟩ = some (.slice e.na e.nl e.nc) ∧ w.cell? ⟨b, 4, none⟩ = some (.slice e.ia e.il e.ic) := box_kept b h (Chg.refl [] w)
set_option maxHeartbeats 4000000 in
theorem isNull_any (e : Ev) (hl : e.nl ≤ maxLen ∧ e.il ≤ maxLen) (w : World) : Calls Tryd.prog 36 #[e.val] w fun e' w' => e' = .returned (.bool (isN e)) ∧ Chg [] w w' := by
  obtain ⟨k, n, t, na, nl, nc, ia, il, ic⟩ := e
  unfold Ev.val
  unfold maxLen at hl
  simp only at hl ⊢
  have Hc := Lib.hid ((Chg.refl [] w).alloc (.cells #[.int .i64 k, .int .i64 n, .string t, .slice na nl nc, .slice ia il ic] 25))
  have fin : ∀ b : Bool, isN ⟨k, n, t, na, nl, nc, ia, il, ic⟩ = b → Hid (isN ⟨k, n, t, na, nl, nc, ia, il, ic⟩ = b) := fun b h => Lib.hid h
  by_cases hk : k = 0
  · subst hk
    by_cases hn : n = 0
    · subst hn
      by_cases ht : t = ⟨#[]⟩
      · subst ht
        by_cases hs : nl + il = 0
        · obtain rfl : nl = 0 := by omega
          obtain rfl : il = 0 := by omega
          have HF := fin true (by simp [isN])
          clear fin hl hs
          go_enter Tryd.func36, Tryd.ntmps36
          go_wp2_with fail
          go_ret
          exact ⟨by rw [HF.out]; rfl, Hc.out⟩
        · have HF := fin false (by simp [isN]; omega)
          obtain ⟨z, hz⟩ : ∃ z, IntKind.i64.wrap ((nl : Int) + (il : Int)) = z := ⟨_, rfl⟩
          have hz0 : (z == 0) = false := by
            have : z ≠ 0 := by
              rw [← hz, IntKind.wrap_i64]
              omega
            simpa using this
          clear fin hl hs
          go_enter Tryd.func36, Tryd.ntmps36
          go_wp2_with fail
          go_ret
          exact ⟨by rw [HF.out]; rfl, Hc.out⟩
      · have HF := fin false (by simp [isN, ht])
        have h0 : t.toList.isEmpty = false := by
          cases h : t.toList with
          | nil => exact absurd (by have := beqS t ⟨#[]⟩; rw [h] at this; simpa using this) ht
          | cons x y => rfl
        clear fin hl ht
        go_enter Tryd.func36, Tryd.ntmps36
        go_wp2_with fail
        go_ret
        exact ⟨by rw [HF.out]; rfl, Hc.out⟩
    · have HF := fin false (by simp [isN, hn])
      have h0 : (n == 0) = false := by simpa using hn
      clear fin hl hn
      go_enter Tryd.func36, Tryd.ntmps36
      go_wp2_with fail
      go_ret
      exact ⟨by rw [HF.out]; rfl, Hc.out⟩
  · have HF := fin false (by simp [isN, hk])
    have h0 : (k == 0) = false := by simpa using hk
    clear fin hl hk
    go_enter Tryd.func36, Tryd.ntmps36
    go_wp2_with fail
    go_ret
    exact ⟨by rw [HF.out]; rfl, Hc.out⟩
/-- a text that may be a method or a message -/
def vtx (m : Nat) (s : ByteArray) : Bool := decide (m ≤ s.size) && (decide (s.size ≤ 60) && u8 s)
set_option maxHeartbeats 4000000 in
theorem validText_b (s : ByteArray) (m : Nat) (w : World) (hT : Tb w) (hs : s.size ≤ maxLen) : Calls Tryd.prog 44 #[.string s, .int .i64 (m : Nat)] w fun e w' => e = .returned (.bool (vtx m s)) ∧ Chg [] w w' := by
  have H := Lib.hid (valid_str s w hs hT)
  have fin : ∀ b : Bool, vtx m s = b → Hid (vtx m s = b) := fun b h => Lib.hid h
  by_cases h0 : m ≤ s.size
  · by_cases h1 : s.size ≤ 60
    · have HF := fin (u8 s) (by simp [vtx, h0, h1])
      have d0 : decide ((m : Int) ≤ s.size) = true := decide_eq_true (by omega)
      have d1 : decide ((s.size : Int) ≤ 60) = true := decide_eq_true (by omega)
      generalize u8 s = b at H HF
      clear hT fin hs
      go_enter Tryd.func44, Tryd.ntmps44
      go_wp2_with fail
      refine H.out.mono ?_
      rintro e w1 ⟨rfl, hc⟩
      have Hc := Lib.hid hc
      clear hc
      go_wp2_with fail
      all_goals
        go_ret
        exact ⟨by rw [HF.out]; rfl, Hc.out⟩
    · have HF := fin false (by simp [vtx, h1])
      have d0 : decide ((m : Int) ≤ s.size) = true := decide_eq_true (by omega)
      have d1 : decide ((s.size : Int) ≤ 60) = false := decide_eq_false (by omega)
      clear hT fin hs H
      go_enter Tryd.func44, Tryd.ntmps44
      go_wp2_with fail
      all_goals
        go_ret
        exact ⟨by rw [HF.out]; rfl, Chg.refl _ _⟩
  · have HF := fin false (by simp [vtx, h0])
    have d0 : decide ((m : Int) ≤ s.size) = false := decide_eq_false (by omega)
    clear hT fin hs H
    go_enter Tryd.func44, Tryd.ntmps44
    go_wp2_with fail
    all_goals
      go_ret
      exact ⟨by rw [HF.out]; rfl, Chg.refl _ _⟩
/-- a message as a value -/
def mB (k i c : Int) (t : ByteArray) (e : Ev) : Value := .agg #[.int .i64 k, .int .i64 i, .int .i64 c, .string t, .int .i64 e.k, .int .i64 e.n, .string e.t, .slice e.na e.nl e.nc, .slice e.ia e.il e.ic]
def cancelT : ByteArray := ⟨#[36, 47, 99, 97, 110, 99, 101, 108]⟩
/-- may a message of this kind have this method -/
def vmM (k : Int) (t : ByteArray) : Bool := if k = 1 then vtx 1 t else if k = 2 then (vtx 1 t && decide (t ≠ cancelT)) else if k = 4 then vtx 0 t else decide (t = ⟨#[]⟩)
end Go.Proofs.YtiklgipcgdgkoaaDoor.Jv
