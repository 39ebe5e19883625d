/- JsonvalOrder: the walk. -/
import Derived.Test.YtpnaegfldkjikaaDoorJvP
namespace Go.Proofs.YtpnaegfldkjikaaDoor.Jv
open Go.RowKit Go.ChangeMaps Go.MapKept
set_option linter.unusedVariables false
set_option linter.unusedSimpArgs false
theorem u8_nil : u8 ⟨#[]⟩ = true := by decide
set_option maxRecDepth 100000 in
set_option maxHeartbeats 16000000 in
theorem order_any (p : Nat → Prop) (f : Nat) (w : World) (j : J) (v : Value) (s : ByteArray) (hj : JV p f w v j) (hp : ∀ g, p g → g < w.heap.size) (hT : Tb w) (hP : P10 w) :
    Calls Tryd.prog 3 #[v, .string s] w fun e w' => e = .returned (.bool true) ∧ Chg [] w w' := by
  obtain ⟨ev, rfl⟩ := hj.ev'
  unfold Ev.val at *
  obtain ⟨wq, hwq⟩ : ∃ x, x = w.alloc (.cells #[.int .i64 ev.k, .int .i64 ev.n, .string ev.t, .slice ev.na ev.nl ev.nc, .slice ev.ia ev.il ev.ic] 25) := ⟨_, rfl⟩
  obtain ⟨B1, hB1⟩ : ∃ x, x = w.heap.size := ⟨_, rfl⟩
  have hcq : Chg [] w wq := by rw [hwq]; exact (Chg.refl _ _).alloc _
  have hbb : wq.heap[B1]? = some (.cells #[.int .i64 ev.k, .int .i64 ev.n, .string ev.t, .slice ev.na ev.nl ev.nc, .slice ev.ia ev.il ev.ic] 25 (0, 0)) := by rw [hwq, hB1]; exact heap_at _ _ _ rfl
  have Hcq := Lib.hid hcq
  have Hbb := Lib.hid hbb
  have Hj := Lib.hid (fun W (hW : Chg [] w W) => hj.kept (S := fun _ => False) hW.p (fun _ _ h => h))
  have HT := Lib.hid (fun W (hW : Chg [] w W) => hT.new hW)
  have HX := Lib.hid (fun W (hW : Chg [] w W) => example_any W (hT.new hW) (hP.kept (S := fun _ => False) hW.p (fun h => h)))
  have Hp := Lib.hid (fun W (hW : Chg [] w W) g (hg : p g) => Nat.lt_of_lt_of_le (hp g hg) hW.size)
  have Hva := Lib.hid (fun W (hW : Chg [] w W) => Validate_any p f W j _ (Hj.out W hW) (HT.out W hW) (Hp.out W hW))
  have Hee := Lib.hid (fun W (hW : Chg [] w W) => Equal_any p p f f W j j _ _ (Hj.out W hW) (Hj.out W hW) (Hp.out W hW) (Hp.out W hW) (HT.out W hW))
  have Hlaw := Lib.hid (fun h : j.valid u8 = 0 => order_law u8_nil h s)
  have Hsm := Lib.hid (fun h : j.valid u8 = 0 => Sm.of h)
  have Hno := Lib.hid (fun h : ¬ j.valid u8 = 0 => (show j.equal u8 j = false by unfold J.equal; rw [decide_eq_false h]; simp))
  obtain ⟨r, hr⟩ : ∃ r, r = j.valid u8 := ⟨_, rfl⟩
  have Hva0 := Lib.hid (fun h : r = 0 => hr.symm.trans h)
  rw [← hr] at Hva Hlaw Hsm Hno
  clear hj hp hT hP hcq hbb hr
  go_enter Tryd.func3, Tryd.ntmps3
  go_upto_region 1 with fail
  rw [← hwq, ← hB1]
  clear hwq hB1
  go_wp2_with fail
  refine (HX.out wq Hcq.out).mono ?_
  rintro e w1 ⟨rfl, hc1⟩
  obtain ⟨b0, b1, b2, b3, b4⟩ := box_kept B1 Hbb.out hc1
  have Hc1 := Lib.hid (Hcq.out.trans hc1)
  have Hd1 := Lib.hid hc1
  clear hc1
  go_wp2_with fail
  refine (Hva.out w1 Hc1.out).mono ?_
  rintro e w2 ⟨rfl, hc2⟩
  obtain ⟨b0, b1, b2, b3, b4⟩ := box_kept B1 Hbb.out (Hd1.out.trans hc2)
  have Hc2 := Lib.hid (Hc1.out.trans hc2)
  have Hd2 := Lib.hid (Hd1.out.trans hc2)
  clear hc2
  by_cases hz : r = 0
  · subst hz
    have Hlw := Lib.hid (Hlaw.out (by first | trivial | rfl))
    go_wp2_with fail
    refine (rev_any p f w2 j _ (Hj.out w2 Hc2.out) (Hsm.out (by first | trivial | rfl))).mono ?_
    rintro e w3 ⟨vr, rfl, hjr, hc3⟩
    obtain ⟨er, rfl⟩ := hjr.ev'
    unfold Ev.val at *
    have Hc3 := Lib.hid (Hc2.out.trans hc3)
    have Hd3 := Lib.hid (Hd2.out.trans hc3)
    have Hr3 := Lib.hid hjr
    obtain ⟨w4, hw4⟩ : ∃ x, x = w3.alloc (.cells #[.int .i64 er.k, .int .i64 er.n, .string er.t, .slice er.na er.nl er.nc, .slice er.ia er.il er.ic] 25) := ⟨_, rfl⟩
    obtain ⟨qr, hqr⟩ : ∃ x, x = w3.heap.size := ⟨_, rfl⟩
    have hc4 : Chg [] w3 w4 := by rw [hw4]; exact (Chg.refl _ _).alloc _
    have hb4 : w4.heap[qr]? = some (.cells #[.int .i64 er.k, .int .i64 er.n, .string er.t, .slice er.na er.nl er.nc, .slice er.ia er.il er.ic] 25 (0, 0)) := by rw [hw4, hqr]; exact heap_at _ _ _ rfl
    have Hc4 := Lib.hid (Hc3.out.trans hc4)
    have Hd4 := Lib.hid (Hd3.out.trans hc4)
    have Hr4 := Lib.hid (hjr.same hc4)
    have Hbr := Lib.hid hb4
    obtain ⟨b0, b1, b2, b3, b4⟩ := box_kept B1 Hbb.out Hd4.out
    clear hc3 hjr hc4 hb4
    go_upto_region 6 with fail
    rw [← hw4, ← hqr]
    clear hw4 hqr
    go_wp2_with fail
    refine (Lookup_any p f w4 j _ s (Hj.out w4 Hc4.out) (Hsm.out (by first | trivial | rfl))).mono ?_
    rintro e w5 ⟨va, rfl, hja, hc5⟩
    obtain ⟨ea, rfl⟩ := hja.ev'
    unfold Ev.val at *
    have Hc5 := Lib.hid (Hc4.out.trans hc5)
    have Hd5 := Lib.hid (Hd4.out.trans hc5)
    have Hd45 := Lib.hid hc5
    obtain ⟨w6, hw6⟩ : ∃ x, x = w5.alloc (.cells #[.int .i64 ea.k, .int .i64 ea.n, .string ea.t, .slice ea.na ea.nl ea.nc, .slice ea.ia ea.il ea.ic] 25) := ⟨_, rfl⟩
    obtain ⟨qa, hqa⟩ : ∃ x, x = w5.heap.size := ⟨_, rfl⟩
    have hc6 : Chg [] w5 w6 := by rw [hw6]; exact (Chg.refl _ _).alloc _
    have hb6 : w6.heap[qa]? = some (.cells #[.int .i64 ea.k, .int .i64 ea.n, .string ea.t, .slice ea.na ea.nl ea.nc, .slice ea.ia ea.il ea.ic] 25 (0, 0)) := by rw [hw6, hqa]; exact heap_at _ _ _ rfl
    have Hc6 := Lib.hid (Hc5.out.trans hc6)
    have Hd6 := Lib.hid (Hd5.out.trans hc6)
    have Hd46 := Lib.hid (Hd45.out.trans hc6)
    have Ha6 := Lib.hid (hja.same hc6)
    have Hba := Lib.hid hb6
    obtain ⟨b0, b1, b2, b3, b4⟩ := box_kept B1 Hbb.out Hd6.out
    obtain ⟨r0, r1, r2, r3, r4⟩ := box_kept qr Hbr.out Hd46.out
    clear hc5 hja hc6 hb6
    go_upto_region 7 with fail
    rw [← hw6, ← hqa]
    clear hw6 hqa
    go_wp2_with fail
    refine (Lookup_any _ (f + 1) w6 j.rev _ s (Hr4.out.same Hd46.out) (Sm.of (rev_valid (Hva0.out (by first | trivial | rfl))))).mono ?_
    rintro e w7 ⟨vb, rfl, hjb, hc7⟩
    obtain ⟨eb, rfl⟩ := hjb.ev'
    unfold Ev.val at *
    have Hc7 := Lib.hid (Hc6.out.trans hc7)
    have Hd7 := Lib.hid (Hd6.out.trans hc7)
    have Hd67 := Lib.hid hc7
    obtain ⟨w8, hw8⟩ : ∃ x, x = w7.alloc (.cells #[.int .i64 eb.k, .int .i64 eb.n, .string eb.t, .slice eb.na eb.nl eb.nc, .slice eb.ia eb.il eb.ic] 25) := ⟨_, rfl⟩
    obtain ⟨qb, hqb⟩ : ∃ x, x = w7.heap.size := ⟨_, rfl⟩
    have hc8 : Chg [] w7 w8 := by rw [hw8]; exact (Chg.refl _ _).alloc _
    have hb8 : w8.heap[qb]? = some (.cells #[.int .i64 eb.k, .int .i64 eb.n, .string eb.t, .slice eb.na eb.nl eb.nc, .slice eb.ia eb.il eb.ic] 25 (0, 0)) := by rw [hw8, hqb]; exact heap_at _ _ _ rfl
    have Hc8 := Lib.hid (Hc7.out.trans hc8)
    have Hd8 := Lib.hid (Hd7.out.trans hc8)
    have Hd68 := Lib.hid (Hd67.out.trans hc8)
    have Hb8 := Lib.hid (hjb.same hc8)
    have Hbb8 := Lib.hid hb8
    have Hd48 := Lib.hid (Hd46.out.trans Hd68.out)
    clear hc7 hjb hc8 hb8
    obtain ⟨q1, hq1⟩ : ∃ q, q = (j.find s).isSome := ⟨_, rfl⟩
    have hq2 : (j.rev.find s).isSome = q1 := Hlw.out.2.2.2.1.symm.trans hq1.symm
    rw [hq2, ← hq1]
    clear hq1 hq2
    have Heq := Lib.hid (fun W (hW : Chg [] w8 W) => And.intro (Hee.out W (Hc8.out.trans hW)) (And.intro
      (Equal_any p _ f (f + 1) W j j.rev _ _ (Hj.out W (Hc8.out.trans hW)) (Hr4.out.same (Hd48.out.trans hW)) (Hp.out W (Hc8.out.trans hW)) (fun g hg => hg.2) (HT.out W (Hc8.out.trans hW))) (And.intro
      (Equal_any _ p (f + 1) f W j.rev j _ _ (Hr4.out.same (Hd48.out.trans hW)) (Hj.out W (Hc8.out.trans hW)) (fun g hg => hg.2) (Hp.out W (Hc8.out.trans hW)) (HT.out W (Hc8.out.trans hW)))
      (Equal_any _ _ f (f + 1) W _ _ _ _ (Ha6.out.same (Hd68.out.trans hW)) (Hb8.out.same hW) (fun g hg => hg.2) (fun g hg => hg.2) (HT.out W (Hc8.out.trans hW))))))
    rw [Hlw.out.1, Hlw.out.2.1, Hlw.out.2.2.1, Hlw.out.2.2.2.2] at Heq
    have Hbox := Lib.hid (fun W (hW : Chg [] w8 W) => And.intro (box_kept B1 Hbb.out (Hd8.out.trans hW)) (And.intro (box_kept qr Hbr.out (Hd48.out.trans hW)) (And.intro (box_kept qa Hba.out (Hd68.out.trans hW)) (box_kept qb Hbb8.out hW))))
    go_upto_region 8 with fail
    rw [← hw8, ← hqb]
    clear hw8 hqb b0 b1 b2 b3 b4 r0 r1 r2 r3 r4
    go_wp2_with fail
    refine (HX.out w8 Hc8.out).mono ?_
    rintro e w9 ⟨rfl, hc9⟩
    obtain ⟨⟨b0, b1, b2, b3, b4⟩, ⟨r0, r1, r2, r3, r4⟩, ⟨x0, x1, x2, x3, x4⟩, ⟨y0, y1, y2, y3, y4⟩⟩ := Hbox.out w9 hc9
    have Hc9 := Lib.hid hc9
    clear hc9
    go_wp2_with fail
    refine ((Heq.out w9 Hc9.out).1).mono ?_
    rintro e w10 ⟨rfl, hc10⟩
    have Hc10 := Lib.hid (Hc9.out.trans hc10)
    clear hc10 b0 b1 b2 b3 b4 r0 r1 r2 r3 r4 x0 x1 x2 x3 x4 y0 y1 y2 y3 y4
    obtain ⟨⟨b0, b1, b2, b3, b4⟩, ⟨r0, r1, r2, r3, r4⟩, ⟨x0, x1, x2, x3, x4⟩, ⟨y0, y1, y2, y3, y4⟩⟩ := Hbox.out w10 Hc10.out
    go_wp2_with fail
    refine ((Heq.out w10 Hc10.out).2.1).mono ?_
    rintro e w11 ⟨rfl, hc11⟩
    have Hc11 := Lib.hid (Hc10.out.trans hc11)
    clear hc11 b0 b1 b2 b3 b4 r0 r1 r2 r3 r4 x0 x1 x2 x3 x4 y0 y1 y2 y3 y4
    obtain ⟨⟨b0, b1, b2, b3, b4⟩, ⟨r0, r1, r2, r3, r4⟩, ⟨x0, x1, x2, x3, x4⟩, ⟨y0, y1, y2, y3, y4⟩⟩ := Hbox.out w11 Hc11.out
    go_wp2_with fail
    refine ((Heq.out w11 Hc11.out).2.2.1).mono ?_
    rintro e w12 ⟨rfl, hc12⟩
    have Hc12 := Lib.hid (Hc11.out.trans hc12)
    clear hc12 b0 b1 b2 b3 b4 r0 r1 r2 r3 r4 x0 x1 x2 x3 x4 y0 y1 y2 y3 y4
    obtain ⟨⟨b0, b1, b2, b3, b4⟩, ⟨r0, r1, r2, r3, r4⟩, ⟨x0, x1, x2, x3, x4⟩, ⟨y0, y1, y2, y3, y4⟩⟩ := Hbox.out w12 Hc12.out
    go_wp2_with fail
    refine ((Heq.out w12 Hc12.out).2.2.2).mono ?_
    rintro e w13 ⟨rfl, hc13⟩
    have Hc13 := Lib.hid (Hc12.out.trans hc13)
    clear hc13 b0 b1 b2 b3 b4 r0 r1 r2 r3 r4 x0 x1 x2 x3 x4 y0 y1 y2 y3 y4
    obtain ⟨⟨b0, b1, b2, b3, b4⟩, ⟨r0, r1, r2, r3, r4⟩, ⟨x0, x1, x2, x3, x4⟩, ⟨y0, y1, y2, y3, y4⟩⟩ := Hbox.out w13 Hc13.out
    go_wp2_with fail
    go_ret
    exact ⟨rfl, Hc8.out.trans Hc13.out⟩
  · have hzb : (r != 0) = true := by simpa using hz
    have Hn := Lib.hid (Hno.out hz)
    clear hz
    go_wp2_with fail
    refine (HX.out w2 Hc2.out).mono ?_
    rintro e w3 ⟨rfl, hc3⟩
    obtain ⟨b0, b1, b2, b3, b4⟩ := box_kept B1 Hbb.out (Hd2.out.trans hc3)
    have Hc3 := Lib.hid (Hc2.out.trans hc3)
    clear hc3
    go_wp2_with fail
    refine (Hee.out w3 Hc3.out).mono ?_
    rintro e w4 ⟨rfl, hc4⟩
    rw [Hn.out]
    have Hc4 := Lib.hid (Hc3.out.trans hc4)
    clear hc4
    go_wp2_with fail
    go_ret
    exact ⟨rfl, Hc4.out⟩
end Go.Proofs.YtpnaegfldkjikaaDoor.Jv
