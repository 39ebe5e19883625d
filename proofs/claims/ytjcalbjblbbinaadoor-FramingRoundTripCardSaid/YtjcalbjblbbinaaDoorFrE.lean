/- Frames: the example, the stream of bodies, FramingRoundTrip's walk. -/
import Derived.Test.YtjcalbjblbbinaaDoorFrD
import Derived.Test.YtjcalbjblbbinaaDoorMod
namespace Go.Proofs.YtjcalbjblbbinaaDoor
open Go.RowKit Go.ChangeMaps Go.MapKept
set_option linter.unusedVariables false
set_option linter.unusedSimpArgs false
theorem encode_yes (b : ByteArray) (w : World) (hP : P10 w) (hs : b.size ≤ 4000) : Calls Tryd.prog 9 #[.string b] w fun e w' => e = .returned (.tuple #[.string (frB b), .int .i64 0]) ∧ Chg [] w w' :=
  (encode_any b w hP).mono fun e w' ⟨h1, h2⟩ => ⟨by rwa [if_pos hs] at h1, h2⟩
theorem encode_no (b : ByteArray) (w : World) (hP : P10 w) (hs : ¬ b.size ≤ 4000) : Calls Tryd.prog 9 #[.string b] w fun e w' => e = .returned (.tuple #[.string ⟨#[]⟩, .int .i64 2]) ∧ Chg [] w w' :=
  (encode_any b w hP).mono fun e w' ⟨h1, h2⟩ => ⟨by rwa [if_neg hs] at h1, h2⟩
theorem hi_frame : frB ⟨#[104, 105]⟩ = ⟨#[67, 111, 110, 116, 101, 110, 116, 45, 76, 101, 110, 103, 116, 104, 58, 32, 50, 13, 10, 13, 10, 104, 105]⟩ := ba_ext (by
  rw [frB_list]
  unfold frame hdl
  rw [show (ByteArray.mk #[104, 105]).size = 2 from rfl, Lib.decDigits_one (by decide)]
  rfl)
set_option maxHeartbeats 4000000 in
theorem example_any (w : World) (hP : P10 w) : Calls Tryd.prog 5 #[] w fun e w' => e = .returned (.bool true) ∧ Chg [] w w' := by
  have h := encode_yes ⟨#[104, 105]⟩ w hP (by decide)
  rw [hi_frame] at h
  have H := Lib.hid h
  clear h hP
  go_enter Tryd.func5, Tryd.ntmps5
  go_wp2_with fail
  refine H.out.mono ?_
  rintro e w1 ⟨rfl, hc1⟩
  have Hc := Lib.hid hc1
  clear hc1
  go_wp2_with fail
  go_ret
  exact ⟨rfl, Hc.out⟩
def flB (L : List ByteArray) : ByteArray := ⟨(flat L).toArray⟩
theorem flB_list (L : List ByteArray) : (flB L).data.toList = flat L := rfl
theorem frame_le {b : ByteArray} (h : b.size ≤ 4000) : (frame b).length ≤ 4024 := by
  rw [frame_len]
  have := hdl_len h
  omega
theorem flat_le : ∀ (L : List ByteArray), (∀ b ∈ L, b.size ≤ 4000) → (flat L).length ≤ L.length * 4024
  | [], _ => by simp [flat]
  | b :: L, h => by
    have h1 := flat_le L (fun x hx => h x (by simp [hx]))
    have h2 := frame_le (h b (by simp))
    rw [flat_cons, List.length_append, List.length_cons]
    omega
theorem flB_size (L : List ByteArray) : (flB L).size = (flat L).length := by
  show (flB L).data.toList.length = _
  rw [flB_list]
def StPost (E : List ByteArray) (w : World) (e : Ending) (w' : World) : Prop :=
  (((∀ b ∈ E, b.size ≤ 4000) ∧ e = .returned (.tuple #[.string (flB E), .bool true])) ∨ e = .returned (.tuple #[.string ⟨#[]⟩, .bool false])) ∧ Chg [] w w'
set_option maxRecDepth 100000 in
set_option maxHeartbeats 8000000 in
theorem stream_any (p : Nat → Prop) (v : Value) (E : List ByteArray) (w : World) (h : StrsP p w v E) (hE : E.length ≤ 100) (hP : P10 w) :
    Calls Tryd.prog 6 #[v] w (StPost E w) := by
  obtain ⟨a, cap, rfl, hl1, hl2⟩ := h.shape
  have H := Lib.hid (fun W (hc : Chg [] w W) => h.same hc)
  have HP := Lib.hid (fun W (hc : Chg [] w W) => hP.new hc)
  clear h hP hl1
  go_enter Tryd.func6, Tryd.ntmps6
  go_wp2_with fail
  go_loopw [4, 10] (fun vs vi wr => ∃ (i : Nat) (s : ByteArray), vs = .string s ∧ vi = .int .i64 (i : Nat) ∧ i ≤ E.length ∧ Hid (s = flB (E.take i) ∧ (∀ b ∈ E.take i, b.size ≤ 4000)) ∧ Hid (Chg [] w wr)) (fun _ vi _ => E.length - (intOf vi).toNat)
  case atStart => exact ⟨0, ⟨#[]⟩, rfl, rfl, by omega, Lib.hid ⟨rfl, by simp⟩, Lib.hid (Chg.refl _ _)⟩
  case round =>
    obtain ⟨i, s, rfl, rfl, hi, HS, HC⟩ := hrel
    by_cases hlt : i < E.length
    · obtain ⟨g, off, rfl, hp, c0⟩ := (H.out wr HC.out).cell i hlt
      have htk : E.take (i + 1) = E.take i ++ [E.getD i ⟨#[]⟩] := by rw [List.take_add_one, List.getElem?_eq_getElem hlt, List.getD_eq_getElem?_getD, List.getElem?_eq_getElem hlt]; rfl
      generalize E.getD i ⟨#[]⟩ = b at c0 htk
      have Htk := Lib.hid htk
      have lb := lt_of_cell c0
      have hii : (i : Int) < E.length := by omega
      clear htk
      by_cases hb : b.size ≤ 4000
      · have Hen2 := Lib.hid (encode_yes b wr (HP.out wr HC.out) hb)
        have HN : Hid (s ++ frB b = flB (E.take (i + 1)) ∧ (∀ b ∈ E.take (i + 1), b.size ≤ 4000)) := Lib.hid ⟨ba_ext (by
          rw [HS.out.1, Htk.out, flB_list, flat_app]
          simp [ByteArray.data_append, flB, frB, flat]), by
          rw [Htk.out]
          intro x hx
          rcases List.mem_append.1 hx with hx | hx
          · exact HS.out.2 x hx
          · rw [List.mem_singleton.1 hx]; exact hb⟩
        have hcat : s.size + (frB b).size ≤ 1000000 := by
          rw [HS.out.1, flB_size, frB_size]
          have h1 := flat_le _ HS.out.2
          have h2 := frame_le hb
          rw [List.length_take] at h1
          have : min i E.length ≤ 100 := by omega
          have h3 : min i E.length * 4024 ≤ 100 * 4024 := Nat.mul_le_mul_right _ this
          omega
        have hcat2 : ¬ 9223372036854775807 < s.size + (frB b).size := by omega
        clear hb hcat
        go_wp2_with fail
        refine Hen2.out.mono ?_
        rintro e w1 ⟨rfl, hc1⟩
        have Hc := Lib.hid (HC.out.trans hc1)
        clear hc1
        go_wp2_with fail
        exact ⟨⟨i + 1, _, rfl, by go_num, by omega, HN, Hc⟩, by simp [intOf]; omega⟩
      · have Hen2 := Lib.hid (encode_no b wr (HP.out wr HC.out) hb)
        clear hb
        go_wp2_with fail
        refine Hen2.out.mono ?_
        rintro e w1 ⟨rfl, hc1⟩
        have Hc := Lib.hid (HC.out.trans hc1)
        clear hc1
        go_wp2_with fail
        go_ret2
        exact ⟨Or.inr rfl, Hc.out⟩
    · obtain rfl : i = E.length := by omega
      have hii : ¬ ((E.length : Int) < E.length) := by omega
      go_wp2_with fail
      go_ret2
      refine ⟨Or.inl ⟨fun b hb => HS.out.2 b (by rw [List.take_length]; exact hb), ?_⟩, HC.out⟩
      have h1 := HS.out.1
      rw [List.take_length] at h1
      rw [← h1]
      rfl
end Go.Proofs.YtjcalbjblbbinaaDoor
