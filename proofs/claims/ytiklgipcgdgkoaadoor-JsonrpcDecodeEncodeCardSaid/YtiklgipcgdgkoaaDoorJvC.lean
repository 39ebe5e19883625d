/- JSON values: texts that are valid UTF-8. -/
import Derived.Test.YtiklgipcgdgkoaaDoorJvB
import Derived.Test.YtiklgipcgdgkoaaDoorJvShelf
namespace Go.Proofs.YtiklgipcgdgkoaaDoor.Jv
open Go.RowKit Go.ChangeMaps Go.MapKept
set_option linter.unusedVariables false
set_option linter.unusedSimpArgs false
/-- a text is valid -/
def u8 (s : ByteArray) : Bool := Lib.validD s.data.toList
/-- the two tables of unicode/utf8 -/
def Tb (w : World) : Prop := Lib.Utf8Tabs (Tryd.laysValid_ren.g 3) (Tryd.laysValid_ren.g 4) w
theorem Tb.kept {S : Nat → Prop} {w w' : World} (h : Tb w) (hc : ChgP S w w') (h3 : ¬ S (Tryd.laysValid_ren.g 3)) (h4 : ¬ S (Tryd.laysValid_ren.g 4)) : Tb w' :=
  ⟨fun c hlt => (hc.cell (lt_of_cell (h.1 c hlt)) h3).trans (h.1 c hlt), fun i hi => ⟨(hc.cell (lt_of_cell (h.2 i hi).1) h4).trans (h.2 i hi).1, (hc.cell (lt_of_cell (h.2 i hi).2) h4).trans (h.2 i hi).2⟩⟩
theorem Tb.new {w w' : World} (h : Tb w) (hc : Chg [] w w') : Tb w' := h.kept (S := fun _ => False) hc.p (fun h => h) (fun h => h)
theorem valid_str (s : ByteArray) (w : World) (hs : s.size ≤ maxLen) (hT : Tb w) : Calls Tryd.prog 61 #[.string s] w fun e w' => e = .returned (.bool (u8 s)) ∧ Chg [] w w' :=
  (Any.utf8_ValidString Tryd.laysValid s w (by unfold maxLen at hs; omega) hT).mono fun e w' ⟨h1, h2⟩ => ⟨h1, Chg.of_below h2⟩
set_option maxHeartbeats 1000000 in
theorem bad_str (s : ByteArray) (w : World) (hs : s.size ≤ maxLen) (hT : Tb w) : Calls Tryd.prog 86 #[.string s] w fun e w' => e = .returned (.bool (!u8 s)) ∧ Chg [] w w' := by
  have H := Lib.hid (valid_str s w hs hT)
  go_enter Tryd.func86, Tryd.ntmps86
  go_wp2_with fail
  refine H.out.mono ?_
  rintro e w1 ⟨rfl, hc1⟩
  go_wp2_with fail
  go_ret
  exact ⟨rfl, hc1⟩
set_option maxRecDepth 100000 in
set_option maxHeartbeats 2000000 in
theorem idx_bad (p : Nat → Prop) (w : World) (nv : Value) (l : List ByteArray) (h : SlR p 1 rdS w nv l) (hT : Tb w) :
    Calls Tryd.prog 101 #[nv, .func (.func 86) #[] #[]] w fun e w' => ∃ i : Int, e = .returned (.int .i64 i) ∧ (0 ≤ i ↔ l.all u8 = false) ∧ Chg [] w w' := by
  obtain ⟨a, cap, rfl, hl1, hl2, _⟩ := (show SlR p 1 rdS w nv l from h)
  have H := Lib.hid h
  have HT := Lib.hid hT
  unfold maxLen at hl2
  clear h hT
  go_enter Tryd.func101, Tryd.ntmps101
  go_wp2_with fail
  go_loopw [8] (fun i wr => ∃ n : Nat, n ≤ l.length ∧ i = .int .i64 (n : Nat) ∧ Hid (Chg [] w wr) ∧ Hid ((l.take n).all u8 = true)) (fun i _ => l.length - (intOf i).toNat)
  case atStart => exact ⟨0, by omega, rfl, Lib.hid (Chg.refl _ _), Lib.hid (by simp)⟩
  case round =>
    obtain ⟨n, hn, rfl, Hc, Hal⟩ := hrel
    by_cases hlt : n < l.length
    · have hk1 : (n : Int) < l.length := by omega
      obtain ⟨g, off, rfl, hp, c0, hsz⟩ := SlR.at (strs_kept (S := fun _ => False) H.out Hc.out.p (fun _ _ h => h)) n hlt ⟨#[]⟩
      have htk : l.take (n + 1) = l.take n ++ [l.getD n ⟨#[]⟩] := by rw [List.take_add_one, List.getElem?_eq_getElem hlt, List.getD_eq_getElem?_getD, List.getElem?_eq_getElem hlt]; rfl
      have hmem : l.getD n ⟨#[]⟩ ∈ l := by rw [List.getD_eq_getElem?_getD, List.getElem?_eq_getElem hlt]; exact List.getElem_mem _
      obtain ⟨x, hx⟩ : ∃ x, l.getD n ⟨#[]⟩ = x := ⟨_, rfl⟩
      rw [hx] at c0 hsz htk hmem
      rw [Nat.mul_one] at c0
      have Hb := Lib.hid (bad_str x wr hsz (HT.out.new Hc.out))
      have Htk := Lib.hid (And.intro htk hmem)
      clear htk hmem hx hsz hp
      go_wp2_with fail
      refine Hb.out.mono ?_
      rintro e w1 ⟨rfl, hc1⟩
      have Hc1 := Lib.hid (Hc.out.trans hc1)
      clear hc1
      cases hu : u8 x
      · have Hall := Lib.hid (show l.all u8 = false by rw [List.all_eq_false]; exact ⟨x, Htk.out.2, by simp [hu]⟩)
        clear hu
        simp only [Bool.not_false]
        go_wp2_with fail
        go_ret
        exact ⟨(n : Int), rfl, ⟨fun _ => Hall.out, fun _ => by omega⟩, Hc1.out⟩
      · have Hall := Lib.hid (show (l.take (n + 1)).all u8 = true by rw [Htk.out.1, List.all_append, Hal.out]; simp [hu])
        clear hu
        simp only [Bool.not_true]
        go_wp2_with fail
        exact ⟨⟨n + 1, by omega, by go_num, Hc1, Hall⟩, by simp [intOf]; omega⟩
    · obtain rfl : n = l.length := by omega
      go_wp2_with fail
      go_ret
      have hal := Hal.out
      rw [List.take_length] at hal
      exact ⟨-1, rfl, ⟨fun h => by omega, fun h => by rw [hal] at h; cases h⟩, Hc.out⟩
set_option maxHeartbeats 1000000 in
theorem cont_bad (p : Nat → Prop) (w : World) (nv : Value) (l : List ByteArray) (h : SlR p 1 rdS w nv l) (hT : Tb w) :
    Calls Tryd.prog 85 #[nv, .func (.func 86) #[] #[]] w fun e w' => e = .returned (.bool (!l.all u8)) ∧ Chg [] w w' := by
  obtain ⟨a, cap, rfl, hl1, hl2, _⟩ := (show SlR p 1 rdS w nv l from h)
  have H := Lib.hid (idx_bad p w _ l h hT)
  clear h hT
  go_enter Tryd.func85, Tryd.ntmps85
  go_wp2_with fail
  refine H.out.mono ?_
  rintro e w1 ⟨i, rfl, hi, hc1⟩
  have Hi := Lib.hid hi
  clear hi
  by_cases h0 : 0 ≤ i
  · go_wp2_with fail
    go_ret
    exact ⟨by rw [Hi.out.1 h0]; rfl, hc1⟩
  · go_wp2_with fail
    go_ret
    have : l.all u8 = true := by
      cases hl : l.all u8
      · exact absurd (Hi.out.2 hl) (by omega)
      · rfl
    exact ⟨by rw [this]; simp; omega, hc1⟩
end Go.Proofs.YtiklgipcgdgkoaaDoor.Jv
