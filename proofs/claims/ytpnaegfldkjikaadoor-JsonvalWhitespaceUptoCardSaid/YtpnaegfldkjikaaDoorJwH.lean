/- JsonvalWhitespace: the walk. -/
import Derived.Test.YtpnaegfldkjikaaDoorJwG
namespace Go.Proofs.YtpnaegfldkjikaaDoor.Jv
open Go.RowKit Go.ChangeMaps Go.MapKept
set_option linter.unusedVariables false
set_option linter.unusedSimpArgs false
def rdB (w : World) (ad : Addr) (b : Bool) : Prop := w.cell? ad = some (.bool b)
/-- the padding -/
def padL (l : List Bool) : List UInt8 := l.flatMap fun b => if b then [32] else [10, 9, 13]
theorem padL_snoc (l : List Bool) (b : Bool) : padL (l ++ [b]) = padL l ++ if b then [32] else [10, 9, 13] := by simp [padL]
theorem padL_len (l : List Bool) : (padL l).length ≤ 3 * l.length := by
  induction l with
  | nil => simp [padL]
  | cons b l ih =>
    have : padL (b :: l) = (if b then [32] else [10, 9, 13]) ++ padL l := rfl
    rw [this, List.length_append, List.length_cons]
    cases b <;> simp <;> omega
theorem skip_pad (l : List Bool) (r : List UInt8) : skip (padL l ++ r) = skip r := by
  induction l with
  | nil => rfl
  | cons b l ih =>
    have : padL (b :: l) = (if b then [32] else [10, 9, 13]) ++ padL l := rfl
    rw [this]
    cases b
    · exact ih
    · exact ih
theorem pad_peek (l : List Bool) (r : List UInt8) (h : peekL r < 48 ∨ 57 < peekL r) : peekL (padL l ++ r) < 48 ∨ 57 < peekL (padL l ++ r) := by
  cases l with
  | nil => exact h
  | cons b l =>
    cases b
    · exact Or.inl (show (10 : UInt8).toNat < 48 by decide)
    · exact Or.inl (show (32 : UInt8).toNat < 48 by decide)
theorem rdB_same {p : Nat → Prop} {w w' : World} {v : Value} {l : List Bool} (h : SlR p 1 rdB w v l) (hc : Chg [] w w') : SlR p 1 rdB w' v l :=
  SlR.imp h (fun _ h => h) fun ad x hp hx => (hc.cell (lt_of_cell hx) (by simp)).trans hx
/-- Decode of a padded text -/
theorem decode_pad (s : ByteArray) (j : J) (bs : List Bool) (w : World) (hs : s.data.toList = padL bs ++ (j.enc ++ padL bs)) (hl : s.size ≤ 4000) (hv : j.valid u8 = 0) (hT : Tb w) :
    Calls Tryd.prog 13 #[.string s] w (DecPost j j.depth w) := by
  obtain ⟨c, l, h1, h2, _⟩ := enc_head j
  have hp := pad_peek bs [] (Or.inl (by decide))
  rw [List.append_nil] at hp
  have hd : s.data.toList.drop (padL bs).length = j.enc ++ padL bs := by rw [hs, List.drop_left]
  refine (decode_step s j j.depth (padL bs).length (padL bs) w hl ?_ hd hp hv (Nat.le_refl _) hT).mono fun e w' h => h.1 ?_
  · rw [hd, hs, skip_pad, h1, List.cons_append, skip, h2]
    rfl
  · have := skip_pad bs []
    rw [List.append_nil] at this
    rw [this]
    rfl
theorem decode_bad (s : ByteArray) (j : J) (bs : List Bool) (w : World) (hs : s.data.toList = j.enc ++ (padL bs ++ [93])) (hl : s.size ≤ 4000) (hv : j.valid u8 = 0) (hT : Tb w) :
    Calls Tryd.prog 13 #[.string s] w (BadPost w) := by
  obtain ⟨c, l, h1, h2, _⟩ := enc_head j
  have hp := pad_peek bs [93] (Or.inr (show 57 < (93 : UInt8).toNat by decide))
  refine (decode_step s j j.depth 0 (padL bs ++ [93]) w hl ?_ (by rw [List.drop_zero, hs]) hp hv (Nat.le_refl _) hT).mono fun e w' h => h.2 ?_
  · rw [List.drop_zero, hs, h1, List.cons_append, skip, h2]
    rfl
  · rw [skip_pad]
    decide
set_option maxRecDepth 100000 in
set_option maxHeartbeats 16000000 in
theorem white_any (p q : Nat → Prop) (f : Nat) (w : World) (j : J) (v bv : Value) (bs : List Bool) (hj : JV p f w v j) (hbs : SlR q 1 rdB w bv bs) (hp : ∀ g, p g → g < w.heap.size) (hT : Tb w) (hP : P10 w) (hlen : j.valid u8 = 0 → j.enc.length ≤ 140737488355328) :
    Calls Tryd.prog 6 #[v, bv] w fun e w' => e = .returned (.bool true) ∧ Chg [] w w' := by
  obtain ⟨ev, rfl⟩ := hj.ev'
  unfold Ev.val at *
  obtain ⟨wq, hwq⟩ : ∃ x, x = w.alloc (.cells #[.int .i64 ev.k, .int .i64 ev.n, .string ev.t, .slice ev.na ev.nl ev.nc, .slice ev.ia ev.il ev.ic] 25) := ⟨_, rfl⟩
  obtain ⟨B1, hB1⟩ : ∃ x, x = w.heap.size := ⟨_, rfl⟩
  have hcq : Chg [] w wq := by rw [hwq]; exact (Chg.refl _ _).alloc _
  have hbb : wq.heap[B1]? = some (.cells #[.int .i64 ev.k, .int .i64 ev.n, .string ev.t, .slice ev.na ev.nl ev.nc, .slice ev.ia ev.il ev.ic] 25 (0, 0)) := by rw [hwq, hB1]; exact heap_at _ _ _ rfl
  have Hcq := Lib.hid hcq
  have Hbb := Lib.hid hbb
  have Hbs := Lib.hid hbs
  obtain ⟨ba, bc, rfl, hbl, hbc, _⟩ := hbs
  unfold maxLen at hbc
  have Hj := Lib.hid (fun W (hW : Chg [] w W) => hj.kept (S := fun _ => False) hW.p (fun _ _ h => h))
  have HT := Lib.hid (fun W (hW : Chg [] w W) => hT.new hW)
  have HX := Lib.hid (fun W (hW : Chg [] w W) => example_any W (hT.new hW) (hP.kept (S := fun _ => False) hW.p (fun h => h)))
  have Hp := Lib.hid (fun W (hW : Chg [] w W) g (hg : p g) => Nat.lt_of_lt_of_le (hp g hg) hW.size)
  have Hen := Lib.hid (fun W (hW : Chg [] w W) => Encode_any p f W j _ (Hj.out W hW) (Hp.out W hW) (HT.out W hW) (hP.kept (S := fun _ => False) hW.p (fun h => h)) hlen)
  unfold EncodePost at Hen
  have Hed : Hid (j.encode.2 = 0 → j.encode.1.data.toList = j.enc ∧ j.valid u8 = 0) := Lib.hid (by
    by_cases h : j.valid u8 ≠ 0
    · have e : j.encode = (⟨#[]⟩, j.valid u8) := by unfold J.encode; rw [if_pos h]
      rw [e]
      exact fun h' => absurd h' h
    · by_cases h2 : 4000 < j.enc.length
      · have e : j.encode = (⟨#[]⟩, 2) := by unfold J.encode; rw [if_neg h, if_pos h2]
        rw [e]
        exact fun h' => absurd h' (by decide)
      · have e : j.encode = (⟨j.enc.toArray⟩, 0) := by unfold J.encode; rw [if_neg h, if_neg h2]
        rw [e]
        exact fun _ => ⟨by simp, by omega⟩)
  obtain ⟨s, hs⟩ : ∃ s, s = j.encode.1 := ⟨_, rfl⟩
  obtain ⟨r, hr⟩ : ∃ r, r = j.encode.2 := ⟨_, rfl⟩
  rw [← hs, ← hr] at Hed
  rw [← hs, ← hr] at Hen
  clear hj hp hT hP hcq hbb hr hs hlen
  go_enter Tryd.func6, Tryd.ntmps6
  go_upto_region 1 with fail
  rw [← hwq, ← hB1]
  clear hwq hB1
  go_wp2_with fail
  refine (HX.out wq Hcq.out).mono ?_
  rintro e w1 ⟨rfl, hc1⟩
  obtain ⟨b0, b1, b2, b3, b4⟩ := box_kept B1 Hbb.out hc1
  have Hc1 := Lib.hid (Hcq.out.trans hc1)
  have Hd1 := Lib.hid hc1
  clear hc1
  go_wp2_with fail
  refine (Hen.out w1 Hc1.out).mono ?_
  rintro e w2 ⟨rfl, hc2⟩
  have Hc2 := Lib.hid (Hc1.out.trans hc2)
  have Hd2 := Lib.hid (Hd1.out.trans hc2)
  clear hc2 b0 b1 b2 b3 b4
  by_cases hz : r = 0
  · subst hz
    have He0 := Lib.hid (Hed.out rfl)
    by_cases hbig : 3000 < s.size
    · have hb1 : decide ((3000 : Int) < s.size) = true := decide_eq_true (by omega)
      clear hbig
      go_wp2_with fail
      refine (HX.out w2 Hc2.out).mono ?_
      rintro e w3 ⟨rfl, hc3⟩
      have Hc3 := Lib.hid (Hc2.out.trans hc3)
      clear hc3
      go_wp2_with fail
      go_ret
      exact ⟨rfl, Hc3.out⟩
    · have hb1 : decide ((3000 : Int) < s.size) = false := decide_eq_false (by omega)
      have hss : s.size ≤ 3000 := by omega
      have Hss := Lib.hid hss
      clear hbig hss
      go_wp2_with fail
      obtain ⟨m, hm⟩ : ∃ m : Nat, m = min bs.length 20 := ⟨_, rfl⟩
      have hmi : (if (bs.length : Int) ≤ 20 then (bs.length : Int) else 20) = (m : Int) := by split <;> omega
      go_loopw [7, 31] (fun v7 v31 wr => ∃ (i : Nat) (P : ByteArray), i ≤ m ∧ v7 = .string P ∧ v31 = .int .i64 (i : Nat) ∧ Hid (P.data.toList = padL (bs.take i)) ∧ Hid (Chg [] w2 wr)) (fun _ v31 _ => m - (intOf v31).toNat)
      case atStart => exact ⟨0, _, by omega, rfl, rfl, Lib.hid rfl, Lib.hid (Chg.refl _ _)⟩
      case round =>
        obtain ⟨i, P, hi, rfl, rfl, HP, Hc⟩ := hrel
        by_cases hlt : i < m
        · have hib : i < bs.length := by omega
          have hij : (i : Int) < m := by omega
          have hi0 : (0 : Int) ≤ i := by omega
          have hibz : (i : Int) < bs.length := by omega
          obtain ⟨g, off, rfl, _, c0⟩ := SlR.at (rdB_same Hbs.out (Hc2.out.trans Hc.out)) i hib default
          obtain ⟨x, hx⟩ : ∃ x, x = bs.getD i default := ⟨_, rfl⟩
          have htk : bs.take (i + 1) = bs.take i ++ [x] := by rw [List.take_add_one, List.getElem?_eq_getElem hib, hx, List.getD_eq_getElem?_getD, List.getElem?_eq_getElem hib]; rfl
          have HP2 : Hid (P.data.toList ++ (if x then [32] else [10, 9, 13]) = padL (bs.take (i + 1))) := Lib.hid (by rw [htk, padL_snoc, HP.out])
          have hps : P.size ≤ 60 := by
            have h1 := padL_len (bs.take i)
            rw [← HP.out, List.length_take] at h1
            have h2 : P.data.toList.length = P.size := rfl
            omega
          unfold rdB at c0
          rw [← hx, Nat.mul_one] at c0
          have lg := lt_of_cell c0
          clear hx htk
          cases x
          · go_wp2_with fail
            exact ⟨⟨i + 1, _, by omega, rfl, by go_num, Lib.hid (by rw [← HP2.out]; simp [ByteArray.data_append]), Hc⟩, by simp [intOf]; omega⟩
          · go_wp2_with fail
            exact ⟨⟨i + 1, _, by omega, rfl, by go_num, Lib.hid (by rw [← HP2.out]; simp [ByteArray.data_append]), Hc⟩, by simp [intOf]; omega⟩
        · have hij : ¬ ((i : Int) < m) := by omega
          have hpl : P.size ≤ 60 := by
            have h1 := padL_len (bs.take i)
            rw [← HP.out, List.length_take] at h1
            have h2 : P.data.toList.length = P.size := rfl
            omega
          have Hsz := Lib.hid (And.intro hpl Hss.out)
          have Hcr := Lib.hid (Hc2.out.trans Hc.out)
          have Hdr := Lib.hid (Hd2.out.trans Hc.out)
          have hpp : P.size + s.size + P.size ≤ 4000 := by have := Hss.out; omega
          have hq1 : (P ++ s ++ P).data.toList = padL (bs.take i) ++ (j.enc ++ padL (bs.take i)) := by simp [ByteArray.data_append, HP.out, He0.out.1]
          have hq2 : (s ++ P ++ ⟨#[93]⟩).data.toList = j.enc ++ (padL (bs.take i) ++ [93]) := by simp [ByteArray.data_append, HP.out, He0.out.1]
          have hz1 : (P ++ s ++ P).size ≤ 4000 := by rw [ByteArray.size_append, ByteArray.size_append]; exact hpp
          have hz2 : (s ++ P ++ ⟨#[93]⟩).size ≤ 4000 := by
            rw [ByteArray.size_append, ByteArray.size_append]
            have h3 : (ByteArray.mk #[93]).size = 1 := rfl
            have := Hss.out
            omega
          have Hg := Lib.hid (fun W (hW : Chg [] w W) => decode_pad (P ++ s ++ P) j (bs.take i) W hq1 hz1 He0.out.2 (HT.out W hW))
          have Hb := Lib.hid (fun W (hW : Chg [] w W) => decode_bad (s ++ P ++ ⟨#[93]⟩) j (bs.take i) W hq2 hz2 He0.out.2 (HT.out W hW))
          have hs3 := Hss.out
          have hps1 : (P ++ s).size ≤ 3060 := by rw [ByteArray.size_append]; omega
          have hps2 : (s ++ P).size ≤ 3060 := by rw [ByteArray.size_append]; omega
          clear hq1 hq2 hz1 hz2 hpp
          go_wp2_with fail
          refine (Hg.out wr Hcr.out).mono ?_
          rintro e w3 ⟨vr, rfl, hjr, hc3⟩
          obtain ⟨er, rfl⟩ := hjr.ev'
          unfold Ev.val at *
          have Hc3 := Lib.hid (Hcr.out.trans hc3)
          have Hd3 := Lib.hid (Hdr.out.trans hc3)
          obtain ⟨w4, hw4⟩ : ∃ x, x = w3.alloc (.cells #[.int .i64 er.k, .int .i64 er.n, .string er.t, .slice er.na er.nl er.nc, .slice er.ia er.il er.ic] 25) := ⟨_, rfl⟩
          obtain ⟨qr, hqr⟩ : ∃ x, x = w3.heap.size := ⟨_, rfl⟩
          have hc4 : Chg [] w3 w4 := by rw [hw4]; exact (Chg.refl _ _).alloc _
          have hb4 : w4.heap[qr]? = some (.cells #[.int .i64 er.k, .int .i64 er.n, .string er.t, .slice er.na er.nl er.nc, .slice er.ia er.il er.ic] 25 (0, 0)) := by rw [hw4, hqr]; exact heap_at _ _ _ rfl
          have Hc4 := Lib.hid (Hc3.out.trans hc4)
          have Hd4 := Lib.hid (Hd3.out.trans hc4)
          have Hr4 := Lib.hid (hjr.same hc4)
          have Hbr := Lib.hid hb4
          clear hc3 hjr hc4 hb4
          go_upto_region 15 with fail
          rw [← hw4, ← hqr]
          clear hw4 hqr
          go_wp2_with fail
          refine (Hb.out w4 Hc4.out).mono ?_
          rintro e w5 ⟨rfl, hc5⟩
          obtain ⟨w6, hw6⟩ : ∃ x, x = w5.alloc (.cells #[.int .i64 0, .int .i64 0, .string ⟨#[]⟩, .slice none 0 0, .slice none 0 0] 25) := ⟨_, rfl⟩
          have hc6 : Chg [] w4 w6 := by rw [hw6]; exact hc5.alloc _
          have Hc6 := Lib.hid (Hc4.out.trans hc6)
          have Hd6 := Lib.hid (Hd4.out.trans hc6)
          have Hd46 := Lib.hid hc6
          clear hc5 hc6
          go_upto_region 16 with fail
          rw [← hw6]
          clear hw6
          go_wp2_with fail
          refine (HX.out w6 Hc6.out).mono ?_
          rintro e w7 ⟨rfl, hc7⟩
          obtain ⟨b0, b1, b2, b3, b4⟩ := box_kept B1 Hbb.out (Hd6.out.trans hc7)
          obtain ⟨r0, r1, r2, r3, r4⟩ := box_kept qr Hbr.out (Hd46.out.trans hc7)
          have Hc7 := Lib.hid (Hc6.out.trans hc7)
          have Hr7 := Lib.hid (Hr4.out.same (Hd46.out.trans hc7))
          clear hc7
          go_wp2_with fail
          refine (ident_any p _ j f _ w7 _ _ (Hj.out w7 Hc7.out) Hr7.out).mono ?_
          rintro e w8 ⟨rfl, hc8⟩
          have Hc8 := Lib.hid (Hc7.out.trans hc8)
          clear hc8
          go_wp2_with fail
          go_ret
          exact ⟨rfl, Hc8.out⟩
  · have hzb : (r != 0) = true := by simpa using hz
    clear hz
    go_wp2_with fail
    refine (HX.out w2 Hc2.out).mono ?_
    rintro e w3 ⟨rfl, hc3⟩
    have Hc3 := Lib.hid (Hc2.out.trans hc3)
    clear hc3
    go_wp2_with fail
    go_ret
    exact ⟨rfl, Hc3.out⟩
end Go.Proofs.YtpnaegfldkjikaaDoor.Jv
