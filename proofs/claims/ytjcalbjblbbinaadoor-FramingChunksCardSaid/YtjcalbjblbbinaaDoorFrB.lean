/- Frames: a field of the header. -/
import Derived.Test.YtjcalbjblbbinaaDoorFrA
namespace Go.Proofs.YtjcalbjblbbinaaDoor
open Go.RowKit Go.ChangeMaps Go.MapKept
set_option linter.unusedVariables false
set_option linter.unusedSimpArgs false
theorem cl_no : ∀ c ∈ cl, c ≠ 58 := by decide
theorem hdl_cut (n : Nat) : Lib.cut (hdl n) [58] = (cl, 32 :: Lib.decDigits n, true) := by
  have h : Lib.index (hdl n) [58] = (cl.length : Nat) := ix_one cl _ 58 cl_no
  unfold Lib.cut
  rw [h, if_pos (by omega)]
  unfold hdl
  rw [Int.toNat_natCast, List.take_left, show cl.length + [(58 : UInt8)].length = cl.length + 1 from rfl, ← List.drop_drop, List.drop_left]
  rfl
def clB : ByteArray := ⟨#[67, 111, 110, 116, 101, 110, 116, 45, 76, 101, 110, 103, 116, 104]⟩
theorem cl_fold : Lib.equalFold cl cl = true := by decide
theorem cl_ascii (j : Nat) (b : UInt8) (h : cl[j]? = some b) : b.toNat < 128 := by
  have hm := List.mem_of_getElem? h
  revert hm
  revert b
  intro b h hm
  have : ∀ c ∈ cl, c.toNat < 128 := by decide
  exact this b hm
set_option maxRecDepth 100000 in
set_option maxHeartbeats 4000000 in
theorem field_any (hb n : Nat) (w : World) (x : ByteArray) (hx : x.data.toList = hdl n) (hn : n ≤ 4000) (h : NB w hb (-1)) (hM : ML w) :
    Calls Tryd.prog 17 #[.pointer (some ⟨hb, 0, none⟩), .string x] w fun e w' => e = .returned (.bool true) ∧ NB w' hb (n : Nat) ∧ Chg [hb] w w' := by
  have H := Lib.hid h
  obtain ⟨m, hm⟩ := hM
  have hl := hdl_len hn
  have hxs : x.size ≤ 20 := by
    have : x.size = x.data.toList.length := rfl
    rw [this, hx]
    exact hl.2
  have Hct := Lib.hid (Tryd.strings_Cut x ⟨#[58]⟩ m w (by omega) hm)
  rw [hx, show (ByteArray.mk #[58]).data.toList = [58] from rfl, hdl_cut] at Hct
  have e1 : (⟨(cl, 32 :: Lib.decDigits n, true).1.toArray⟩ : ByteArray) = clB := rfl
  rw [e1] at Hct
  obtain ⟨v, hv⟩ : ∃ v : ByteArray, v = ⟨(32 :: Lib.decDigits n).toArray⟩ := ⟨_, rfl⟩
  have e2 : (⟨(cl, 32 :: Lib.decDigits n, true).2.1.toArray⟩ : ByteArray) = v := hv.symm
  rw [e2] at Hct
  have hvl : v.data.toList = 32 :: Lib.decDigits n := by rw [hv]
  have hvs : v.size ≤ 5 := by
    have h1 : v.size = v.data.toList.length := rfl
    rw [h1, hvl, List.length_cons]
    have h2 := (dgs_size hn).2
    have h3 : (dgs n).size = (Lib.decDigits n).length := by unfold dgs; simp [ByteArray.size]
    omega
  have Hvn := Lib.hid (fun W => validName_any clB W (by decide) (by decide) (by decide))
  have Hvv := Lib.hid (fun W => validValue_any v W (by
    rw [hvl]
    intro c hc
    rcases List.mem_cons.1 hc with rfl | hc
    · decide
    · have := dig_all n c hc
      omega) (by omega))
  have Hef := Lib.hid (fun W => Tryd.strings_EqualFold clB clB W (by decide) cl_ascii cl_ascii)
  rw [show Lib.equalFold clB.data.toList clB.data.toList = true from cl_fold] at Hef
  have Htr := Lib.hid (fun W => trim_any v ⟨#[32, 9]⟩ W (by omega) (by decide) (by decide))
  rw [hvl, show (ByteArray.mk #[32, 9]).data.toList = [32, 9] from rfl, trim_ws, show (⟨(Lib.decDigits n).toArray⟩ : ByteArray) = dgs n from rfl] at Htr
  have Hsl := Lib.hid (fun W hW => setLength_any hb n W hn hW)
  clear h hx hv hvl hvs hxs hm hl e1 e2
  go_enter Tryd.func17, Tryd.ntmps17
  go_wp2_with fail
  refine Hct.out.mono ?_
  rintro e w1 ⟨rfl, q, rfl⟩
  have hc1 : Chg [] w (w.drewN q) := (Chg.refl _ _).drewN _
  have H1 := Lib.hid (And.intro (H.out.new hc1) hc1)
  obtain ⟨w1, hw1⟩ : ∃ y, y = w.drewN q := ⟨_, rfl⟩
  rw [← hw1] at H1 ⊢
  clear hc1 hw1
  go_wp2_with fail
  refine (Hvn.out w1).mono ?_
  rintro e w2 ⟨rfl, rfl⟩
  go_wp2_with fail
  refine (Hvv.out w2).mono ?_
  rintro e w3 ⟨rfl, rfl⟩
  go_wp2_with fail
  refine (Hef.out w3).mono ?_
  rintro e w4 ⟨rfl, rfl⟩
  go_wp2_with fail
  refine (Htr.out w4).mono ?_
  rintro e w5 ⟨rfl, hc5⟩
  have H5 := Lib.hid (And.intro (H1.out.1.new hc5) (H1.out.2.trans hc5))
  clear hc5
  go_wp2_with fail
  refine (Hsl.out w5 H5.out.1).mono ?_
  rintro e w6 ⟨rfl, hn6, hc6⟩
  have H6 := Lib.hid (And.intro hn6 ((H5.out.2.mono (T := [hb]) (by simp)).trans hc6))
  clear hn6 hc6
  go_wp2_with fail
  go_ret
  exact ⟨rfl, H6.out⟩
end Go.Proofs.YtjcalbjblbbinaaDoor
