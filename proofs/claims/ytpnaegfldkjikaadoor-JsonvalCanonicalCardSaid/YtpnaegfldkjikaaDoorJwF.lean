/- JsonvalRoundTrip: the walk. -/
import Derived.Test.YtpnaegfldkjikaaDoorJwE
namespace Go.Proofs.YtpnaegfldkjikaaDoor.Jv
open Go.RowKit Go.ChangeMaps Go.MapKept
set_option linter.unusedVariables false
set_option linter.unusedSimpArgs false
/-- Decode of what Encode gives -/
theorem decode_enc (s : ByteArray) (j : J) (w : World) (hs : s.data.toList = j.enc) (hl : j.enc.length ≤ 4000) (hv : j.valid u8 = 0) (hT : Tb w) :
    Calls Tryd.prog 13 #[.string s] w (DecPost j j.depth w) := by
  have hsz : s.size ≤ 4000 := by rw [show s.size = s.data.toList.length from rfl, hs]; exact hl
  obtain ⟨c, l, h1, h2, _⟩ := enc_head j
  refine (decode_step s j j.depth 0 [] w hsz ?_ (by rw [List.drop_zero, hs]; simp) (Or.inl (by decide)) hv (Nat.le_refl _) hT).mono fun e w' h => h.1 rfl
  rw [List.drop_zero, hs, h1, skip, h2]
  rfl
set_option maxRecDepth 100000 in
set_option maxHeartbeats 16000000 in
theorem roundTrip_any (p : Nat → Prop) (f : Nat) (w : World) (j : J) (v : Value) (hj : JV p f w v j) (hp : ∀ g, p g → g < w.heap.size) (hT : Tb w) (hP : P10 w) (hlen : j.valid u8 = 0 → j.enc.length ≤ 140737488355328) :
    Calls Tryd.prog 4 #[v] w fun e w' => e = .returned (.bool true) ∧ Chg [] w w' := by
  obtain ⟨ev, rfl⟩ := hj.ev'
  unfold Ev.val at *
  obtain ⟨wq, hwq⟩ : ∃ x, x = w.alloc (.cells #[.int .i64 ev.k, .int .i64 ev.n, .string ev.t, .slice ev.na ev.nl ev.nc, .slice ev.ia ev.il ev.ic] 25) := ⟨_, rfl⟩
  obtain ⟨B1, hB1⟩ : ∃ x, x = w.heap.size := ⟨_, rfl⟩
  have hcq : Chg [] w wq := by rw [hwq]; exact (Chg.refl _ _).alloc _
  have hbb : wq.heap[B1]? = some (.cells #[.int .i64 ev.k, .int .i64 ev.n, .string ev.t, .slice ev.na ev.nl ev.nc, .slice ev.ia ev.il ev.ic] 25 (0, 0)) := by rw [hwq, hB1]; exact heap_at _ _ _ rfl
  have Hcq := Lib.hid hcq
  have Hbb := Lib.hid hbb
  have Hj := Lib.hid (fun W (hW : Chg [] w W) => hj.kept (S := fun _ => False) hW.p (fun _ _ h => h))
  have HT := Lib.hid (fun W (hW : Chg [] w W) => hT.new hW)
  have HX := Lib.hid (fun W (hW : Chg [] w W) => example_any W (hT.new hW) (hP.kept (S := fun _ => False) hW.p (fun h => h)))
  have Hp := Lib.hid (fun W (hW : Chg [] w W) g (hg : p g) => Nat.lt_of_lt_of_le (hp g hg) hW.size)
  have Hen := Lib.hid (fun W (hW : Chg [] w W) => Encode_any p f W j _ (Hj.out W hW) (Hp.out W hW) (HT.out W hW) (hP.kept (S := fun _ => False) hW.p (fun h => h)) hlen)
  unfold EncodePost at Hen
  have Hed : Hid ((j.encode.2 = 0 → j.encode.1.data.toList = j.enc ∧ j.enc.length ≤ 4000 ∧ j.valid u8 = 0) ∧ (j.encode.2 ≠ 0 → j.encode.1 = ⟨#[]⟩)) := Lib.hid (by
    by_cases h : j.valid u8 ≠ 0
    · have e : j.encode = (⟨#[]⟩, j.valid u8) := by unfold J.encode; rw [if_pos h]
      rw [e]
      exact ⟨fun h' => absurd h' h, fun _ => rfl⟩
    · by_cases h2 : 4000 < j.enc.length
      · have e : j.encode = (⟨#[]⟩, 2) := by unfold J.encode; rw [if_neg h, if_pos h2]
        rw [e]
        exact ⟨fun h' => absurd h' (by decide), fun _ => rfl⟩
      · have e : j.encode = (⟨j.enc.toArray⟩, 0) := by unfold J.encode; rw [if_neg h, if_neg h2]
        rw [e]
        exact ⟨fun _ => ⟨by simp, by omega, by omega⟩, fun h' => absurd rfl h'⟩)
  obtain ⟨s, hs⟩ : ∃ s, s = j.encode.1 := ⟨_, rfl⟩
  obtain ⟨r, hr⟩ : ∃ r, r = j.encode.2 := ⟨_, rfl⟩
  rw [← hs, ← hr] at Hed
  rw [← hs, ← hr] at Hen
  clear hj hp hT hP hcq hbb hr hs hlen
  go_enter Tryd.func4, Tryd.ntmps4
  go_upto_region 1 with fail
  rw [← hwq, ← hB1]
  clear hwq hB1
  go_wp2_with fail
  refine (HX.out wq Hcq.out).mono ?_
  rintro e w1 ⟨rfl, hc1⟩
  obtain ⟨b0, b1, b2, b3, b4⟩ := box_kept B1 Hbb.out hc1
  have Hc1 := Lib.hid (Hcq.out.trans hc1)
  have Hd1 := Lib.hid hc1
  clear hc1
  go_wp2_with fail
  refine (Hen.out w1 Hc1.out).mono ?_
  rintro e w2 ⟨rfl, hc2⟩
  have Hc2 := Lib.hid (Hc1.out.trans hc2)
  have Hd2 := Lib.hid (Hd1.out.trans hc2)
  clear hc2
  by_cases hz : r = 0
  · subst hz
    have He0 := Lib.hid (Hed.out.1 rfl)
    go_wp2_with fail
    refine (decode_enc s j w2 He0.out.1 He0.out.2.1 He0.out.2.2 (HT.out w2 Hc2.out)).mono ?_
    rintro e w3 ⟨vr, rfl, hjr, hc3⟩
    obtain ⟨er, rfl⟩ := hjr.ev'
    unfold Ev.val at *
    have Hc3 := Lib.hid (Hc2.out.trans hc3)
    have Hd3 := Lib.hid (Hd2.out.trans hc3)
    obtain ⟨w4, hw4⟩ : ∃ x, x = w3.alloc (.cells #[.int .i64 er.k, .int .i64 er.n, .string er.t, .slice er.na er.nl er.nc, .slice er.ia er.il er.ic] 25) := ⟨_, rfl⟩
    obtain ⟨qr, hqr⟩ : ∃ x, x = w3.heap.size := ⟨_, rfl⟩
    have hc4 : Chg [] w3 w4 := by rw [hw4]; exact (Chg.refl _ _).alloc _
    have hb4 : w4.heap[qr]? = some (.cells #[.int .i64 er.k, .int .i64 er.n, .string er.t, .slice er.na er.nl er.nc, .slice er.ia er.il er.ic] 25 (0, 0)) := by rw [hw4, hqr]; exact heap_at _ _ _ rfl
    have Hc4 := Lib.hid (Hc3.out.trans hc4)
    have Hd4 := Lib.hid (Hd3.out.trans hc4)
    have Hr4 := Lib.hid (hjr.same hc4)
    have Hbr := Lib.hid hb4
    clear hc3 hjr hc4 hb4 b0 b1 b2 b3 b4
    go_upto_region 7 with fail
    rw [← hw4, ← hqr]
    clear hw4 hqr
    go_wp2_with fail
    refine (HX.out w4 Hc4.out).mono ?_
    rintro e w5 ⟨rfl, hc5⟩
    obtain ⟨b0, b1, b2, b3, b4⟩ := box_kept B1 Hbb.out (Hd4.out.trans hc5)
    obtain ⟨r0, r1, r2, r3, r4⟩ := box_kept qr Hbr.out hc5
    have Hc5 := Lib.hid (Hc4.out.trans hc5)
    have Hr5 := Lib.hid (Hr4.out.same hc5)
    clear hc5
    go_wp2_with fail
    refine (ident_any p _ j f _ w5 _ _ (Hj.out w5 Hc5.out) Hr5.out).mono ?_
    rintro e w6 ⟨rfl, hc6⟩
    have Hc6 := Lib.hid (Hc5.out.trans hc6)
    clear hc6
    go_wp2_with fail
    go_ret
    exact ⟨rfl, Hc6.out⟩
  · have hzb : (r != 0) = true := by simpa using hz
    have Hse := Lib.hid (Hed.out.2 hz)
    clear hz
    go_wp2_with fail
    refine (HX.out w2 Hc2.out).mono ?_
    rintro e w3 ⟨rfl, hc3⟩
    have Hc3 := Lib.hid (Hc2.out.trans hc3)
    clear hc3
    obtain rfl := Hse.out
    go_wp2_with fail
    go_ret
    exact ⟨rfl, Hc3.out⟩
end Go.Proofs.YtpnaegfldkjikaaDoor.Jv
