/- JSON values: Encode, jsonExample. -/
import Derived.Test.YtiklgipcgdgkoaaDoorJvO
namespace Go.Proofs.YtiklgipcgdgkoaaDoor.Jv
open Go.RowKit Go.ChangeMaps Go.MapKept
set_option linter.unusedVariables false
set_option linter.unusedSimpArgs false
theorem bset_all {B b : Nat} {w w' : World} (h : ChgP (bldSet B b w) w w') (hB : w.heap.size ≤ B) : Chg [] w w' :=
  ⟨h.os, h.tape, h.output, h.size, fun k hk _ => h.block k hk fun hs => by have := hs.1; omega⟩
theorem chg_below {B b : Nat} {w w3 w4 w5 : World} (h1 : Chg [] w w3) (h2 : ChgP (bldSet B b w3) w3 w4) (h3 : Below B w4 w5) (hB : w.heap.size ≤ B) : Chg [] w w5 :=
  ⟨h3.os.trans (h2.os.trans h1.os), h3.tape.trans (h2.tape.trans h1.tape), h3.output.trans (h2.output.trans h1.output), Nat.le_trans h1.size (Nat.le_trans h2.size h3.size), fun k hk _ =>
    (h3.block k (by omega)).trans ((h2.block k (Nat.lt_of_lt_of_le hk h1.size) (bset_below (by omega))).trans (h1.block k hk (by simp)))⟩
/-- what Encode answers -/
def J.encode (j : J) : ByteArray × Int := if j.valid u8 ≠ 0 then (⟨#[]⟩, j.valid u8) else if 4000 < j.enc.length then (⟨#[]⟩, 2) else (⟨j.enc.toArray⟩, 0)
def EncodePost (j : J) (w : World) (e : Ending) (w' : World) : Prop := e = .returned (.tuple #[.string j.encode.1, .int .i64 j.encode.2]) ∧ Chg [] w w'
set_option maxRecDepth 100000 in
set_option maxHeartbeats 8000000 in
theorem Encode_any (p : Nat → Prop) (f : Nat) (w : World) (j : J) (v : Value) (hj : JV p f w v j) (hp : ∀ g, p g → g < w.heap.size) (hT : Tb w) (hP : P10 w) (hlen : j.valid u8 = 0 → j.enc.length ≤ 140737488355328) :
    Calls Tryd.prog 30 #[v] w (EncodePost j w) := by
  obtain ⟨ev, rfl⟩ := hj.ev'
  unfold Ev.val at *
  obtain ⟨wq, hwq⟩ : ∃ x, x = w.alloc (.cells #[.int .i64 ev.k, .int .i64 ev.n, .string ev.t, .slice ev.na ev.nl ev.nc, .slice ev.ia ev.il ev.ic] 25) := ⟨_, rfl⟩
  obtain ⟨B1, hB1⟩ : ∃ x, x = w.heap.size := ⟨_, rfl⟩
  have hcq : Chg [] w wq := by rw [hwq]; exact (Chg.refl _ _).alloc _
  have hbb : wq.heap[B1]? = some (.cells #[.int .i64 ev.k, .int .i64 ev.n, .string ev.t, .slice ev.na ev.nl ev.nc, .slice ev.ia ev.il ev.ic] 25 (0, 0)) := by rw [hwq, hB1]; exact heap_at _ _ _ rfl
  obtain ⟨b0, b1, b2, b3, b4⟩ := box_kept B1 hbb (Chg.refl [] wq)
  have lb := lt_of_cell b0
  have Hcq := Lib.hid hcq
  have Hbb := Lib.hid hbb
  have Hj := Lib.hid hj
  have Hp := Lib.hid hp
  have HT := Lib.hid hT
  have HP := Lib.hid hP
  have Hlen := Lib.hid hlen
  have HB := Lib.hid hB1
  have Hva := Lib.hid (Validate_any p f wq j _ (hj.kept (S := fun _ => False) hcq.p (fun _ _ h => h)) (hT.new hcq) (fun g hg => Nat.lt_of_lt_of_le (hp g hg) hcq.size))
  have HE : Hid (j.encode = if j.valid u8 ≠ 0 then (⟨#[]⟩, j.valid u8) else if 4000 < j.enc.length then (⟨#[]⟩, 2) else (⟨j.enc.toArray⟩, 0)) := Lib.hid rfl
  have HSm := Lib.hid (fun h : j.valid u8 = 0 => Sm.of h)
  obtain ⟨r, hr⟩ : ∃ r, r = j.valid u8 := ⟨_, rfl⟩
  rw [← hr] at Hva HE HSm Hlen
  clear hj hp hT hP hlen hcq hbb hr
  go_enter Tryd.func30, Tryd.ntmps30
  go_upto_region 1 with fail
  rw [← hwq, ← hB1]
  clear hwq hB1
  go_wp2_with fail
  refine Hva.out.mono ?_
  rintro e w2 ⟨rfl, hc2⟩
  obtain ⟨b0, b1, b2, b3, b4⟩ := box_kept B1 Hbb.out hc2
  have Hc2 := Lib.hid (Hcq.out.trans hc2)
  have Hc2' := Lib.hid hc2
  clear hc2
  by_cases hz : r = 0
  · subst hz
    rw [if_neg (by simp)] at HE
    obtain ⟨w3, hw3⟩ : ∃ x, x = w2.alloc (.cells #[.pointer none, .slice none 0 0] 92) := ⟨_, rfl⟩
    obtain ⟨b, hb⟩ : ∃ x, x = w2.heap.size := ⟨_, rfl⟩
    have hc3 : Chg [] w2 w3 := by rw [hw3]; exact (Chg.refl _ _).alloc _
    have hb3 : w3.heap[b]? = some (.cells #[.pointer none, .slice none 0 0] 92 (0, 0)) := by rw [hw3, hb]; exact heap_at _ _ _ rfl
    obtain ⟨b0, b1, b2, b3, b4⟩ := box_kept B1 Hbb.out (Hc2'.out.trans hc3)
    have hbld : BW b b [] w3 := Or.inl ⟨Nat.le_refl _, .slice none 0 0, hb3, World.ownsRow_nil _ _ _ _, by simp [Value.ownBlock]⟩
    have Hbld := Lib.hid hbld
    have Hbsz := Lib.hid (show b ≤ w3.heap.size by rw [hb]; exact hc3.size)
    have Hbw := Lib.hid (show w.heap.size ≤ b by rw [hb]; exact Hc2.out.size)
    have Hc3 := Lib.hid (Hc2.out.trans hc3)
    clear hc3 hb3 hbld
    go_upto_region 5 with fail
    rw [← hw3, ← hb]
    clear hw3 hb
    go_wp2_with fail
    refine (enc_any p b b ⟨fun g hg => by have := Hp.out g hg; have := Hbw.out; omega, by have := HP.out.lt; have := Hbw.out; omega⟩ f w3 j _ [] (Hj.out.kept (S := fun _ => False) Hc3.out.p (fun _ _ h => h)) (HSm.out (by first | trivial | rfl)) Hbld.out Hbsz.out (HP.out.kept (S := fun _ => False) Hc3.out.p (fun h => h)) (by have := Hlen.out (by first | trivial | rfl); simpa using this)).mono ?_
    rintro e w4 ⟨rfl, h1, hc4, hz4⟩
    rw [List.nil_append] at h1
    have H4 := Lib.hid (And.intro h1 (And.intro hc4 (Nat.le_trans Hbsz.out hz4)))
    clear h1 hc4 hz4
    go_wp2_with fail
    refine (Tryd.Builder_Len b b _ w4 H4.out.1).mono ?_
    rintro e w' ⟨rfl, rfl⟩
    rw [cells_len]
    obtain ⟨m, hm⟩ : ∃ m, m = j.enc.length := ⟨_, rfl⟩
    rw [← hm] at HE ⊢
    clear hm
    have hcw : ∀ w5, Below b w' w5 → Chg [] w w5 := fun w5 hb5 => chg_below Hc3.out H4.out.2.1 hb5 Hbw.out
    by_cases hl : 4000 < m
    · rw [if_pos hl] at HE
      have hli : (4000 : Int) < m := by omega
      go_wp2_with fail
      go_ret2
      exact ⟨by rw [HE.out]; rfl, hcw _ (Below.refl _ _)⟩
    · rw [if_neg hl] at HE
      have hli : ¬ (4000 : Int) < m := by omega
      go_wp2_with fail
      refine (Tryd.Builder_String_any b b _ w' H4.out.1 H4.out.2.2).mono ?_
      rintro e w5 ⟨rfl, hb5⟩
      have Hw5 := Lib.hid (hcw w5 hb5)
      clear hcw hb5
      go_wp2_with fail
      go_ret2
      exact ⟨by rw [HE.out]; rfl, Hw5.out⟩
  · rw [if_pos hz] at HE
    have hzb : (r != 0) = true := by simpa using hz
    clear hz
    go_wp2_with fail
    go_ret2
    exact ⟨by rw [HE.out]; rfl, Hc2.out⟩
/-! ### the example -/
def exJ : J := .mk 5 0 ⟨#[]⟩ [⟨#[97]⟩] [.mk 2 1 ⟨#[]⟩ [] []]
theorem exJ_valid : exJ.valid u8 = 0 := by
  have hv : (J.mk 2 1 ⟨#[]⟩ [] []).vd u8 = 0 := vd_zero.2 ⟨by decide, by decide, by simp⟩
  have hw : exJ.vd u8 = 0 := vd_zero.2 ⟨by decide, by decide, fun e he => by rw [List.mem_singleton.1 he]; exact hv⟩
  unfold J.valid
  rw [if_pos (by decide)]
  exact hw
theorem exJ_enc : exJ.enc = [123, 34, 97, 34, 58, 49, 125] := by
  have h1 : Lib.itoa 1 = [49] := by simp [Lib.itoa, Lib.decDigits]
  have h2 : encS ⟨#[97]⟩ = [34, 97, 34] := by decide
  simp [exJ, J.enc, encL, h1, h2]
theorem exJ_encode : exJ.encode = (⟨#[123, 34, 97, 34, 58, 49, 125]⟩, 0) := by
  unfold J.encode
  rw [exJ_valid, exJ_enc]
  rfl
end Go.Proofs.YtiklgipcgdgkoaaDoor.Jv
