/- JsonvalCanonical's walk. -/
import Derived.Test.YtpnaegfldkjikaaDoorJyI
import Derived.Test.YtpnaegfldkjikaaDoorJwF
namespace Go.Proofs.YtpnaegfldkjikaaDoor.Jv
open Go.RowKit Go.ChangeMaps Go.MapKept
set_option linter.unusedVariables false
set_option linter.unusedSimpArgs false
theorem zero_is {B f : Nat} {w : World} : JN B f w (.agg #[.int .i64 0, .int .i64 0, .string ⟨#[]⟩, .slice none 0 0, .slice none 0 0]) J.zero := JN.leaf (by decide)
/-- a value that is valid and whose text is short is encoded -/
theorem encode_ok {j : J} (hv : j.valid u8 = 0) (hl : j.enc.length ≤ 4000) : j.encode = (⟨j.enc.toArray⟩, 0) := by
  unfold J.encode
  rw [if_neg (by omega), if_neg (by omega)]
theorem enc_call (B f : Nat) (w : World) (j : J) (v : Value) (hj : JN B f w v j) (hT : Tb w) (hP : P10 w) (hv : j.valid u8 = 0) (hl : j.enc.length ≤ 4000) :
    Calls Tryd.prog 12 #[v] w fun e w' => e = .returned (.tuple #[.string ⟨j.enc.toArray⟩, .int .i64 0]) ∧ Chg [] w w' := by
  have h := Encode_any _ f w j v hj (fun g hg => hg.2) hT hP (fun _ => by omega)
  unfold EncodePost at h
  rw [encode_ok hv hl] at h
  exact h
set_option maxRecDepth 100000 in
set_option maxHeartbeats 16000000 in
theorem canonical_any (s : ByteArray) (w : World) (hT : Tb w) (hP : P10 w) (hEr : Er w) :
    Calls Tryd.prog 5 #[.string s] w fun e w' => e = .returned (.bool true) ∧ Chg [] w w' := by
  have HT := Lib.hid (fun W (hW : Chg [] w W) => hT.new hW)
  have HP := Lib.hid (fun W (hW : Chg [] w W) => hP.kept (S := fun _ => False) hW.p (fun h => h))
  have HX := Lib.hid (fun W (hW : Chg [] w W) => example_any W (hT.new hW) (hP.kept (S := fun _ => False) hW.p (fun h => h)))
  have HD := Lib.hid (fun W (hW : Chg [] w W) => Decode_any s W (hT.new hW) (hEr.new hW))
  have Hc0 := Lib.hid (Chg.refl [] w)
  clear hT hP hEr
  go_enter Tryd.func5, Tryd.ntmps5
  go_wp2_with fail
  refine (HX.out w Hc0.out).mono ?_
  rintro e w1 ⟨rfl, hc1⟩
  have Hc1 := Lib.hid hc1
  clear hc1
  go_wp2_with fail
  refine (HD.out w1 Hc1.out).mono ?_
  rintro e w2 (⟨v2, j, f, rfl, hv2, hval, hlen, hs4, hc2⟩ | ⟨c, hc, rfl, hc2⟩)
  · obtain ⟨e2, rfl⟩ := hv2.ev'
    have Hv2 := Lib.hid hv2
    have Hval := Lib.hid hval
    have Hlen := Lib.hid (And.intro hlen hs4)
    have Hc2 := Lib.hid (Hc1.out.trans hc2)
    clear hv2 hval hlen hs4 hc2
    obtain ⟨w3, hw3⟩ : ∃ x, x = w2.alloc (.cells #[.int .i64 e2.k, .int .i64 e2.n, .string e2.t, .slice e2.na e2.nl e2.nc, .slice e2.ia e2.il e2.ic] 25) := ⟨_, rfl⟩
    obtain ⟨q3, hq3⟩ : ∃ x, x = w2.heap.size := ⟨_, rfl⟩
    have hc3 : Chg [] w2 w3 := by rw [hw3]; exact (Chg.refl _ _).alloc _
    have hb3 : w3.heap[q3]? = some (.cells #[.int .i64 e2.k, .int .i64 e2.n, .string e2.t, .slice e2.na e2.nl e2.nc, .slice e2.ia e2.il e2.ic] 25 (0, 0)) := by rw [hw3, hq3]; exact heap_at _ _ _ rfl
    have Hc3 := Lib.hid (Hc2.out.trans hc3)
    have Hv3 := Lib.hid (Hv2.out.same hc3)
    have Hb3 := Lib.hid hb3
    clear hc3 hb3
    obtain ⟨t, ht⟩ : ∃ t : ByteArray, t = ⟨j.enc.toArray⟩ := ⟨_, rfl⟩
    have hts : t.size ≤ s.size := by
      have h1 : t.size = j.enc.length := by rw [ht]; simp [ByteArray.size]
      rw [h1]
      exact Hlen.out.1
    have htl : t.data.toList = j.enc := by rw [ht]
    have Hen := Lib.hid (fun (B f : Nat) (W : World) (hW : Chg [] w W) (v : Value) (hj : JN B f W v j) => enc_call B f W j v hj (HT.out W hW) (HP.out W hW) Hval.out (by have := Hlen.out.1; have := Hlen.out.2; omega))
    rw [← ht] at Hen
    have Hde := Lib.hid (fun (W : World) (hW : Chg [] w W) => decode_enc t j W htl (by have := Hlen.out.1; have := Hlen.out.2; omega) Hval.out (HT.out W hW))
    have Hts := Lib.hid hts
    clear ht htl hts
    unfold Ev.val
    go_upto_region 4 with fail
    rw [← hw3, ← hq3]
    clear hw3 hq3
    obtain ⟨b0, b1, b2, b3, b4⟩ := box_kept q3 Hb3.out (Chg.refl [] w3)
    go_wp2_with fail
    refine (Hen.out _ _ w3 Hc3.out _ Hv3.out).mono ?_
    rintro e w4 ⟨rfl, hc4⟩
    have Hc4 := Lib.hid (Hc3.out.trans hc4)
    clear hc4 b0 b1 b2 b3 b4
    go_wp2_with fail
    refine (Hde.out w4 Hc4.out).mono ?_
    rintro e w5 ⟨v5, rfl, hv5, hc5⟩
    obtain ⟨e5, rfl⟩ := hv5.ev'
    have Hc5 := Lib.hid (Hc4.out.trans hc5)
    have Hv5 := Lib.hid hv5
    clear hv5 hc5
    obtain ⟨w6, hw6⟩ : ∃ x, x = w5.alloc (.cells #[.int .i64 e5.k, .int .i64 e5.n, .string e5.t, .slice e5.na e5.nl e5.nc, .slice e5.ia e5.il e5.ic] 25) := ⟨_, rfl⟩
    obtain ⟨q6, hq6⟩ : ∃ x, x = w5.heap.size := ⟨_, rfl⟩
    have hc6 : Chg [] w5 w6 := by rw [hw6]; exact (Chg.refl _ _).alloc _
    have hb6 : w6.heap[q6]? = some (.cells #[.int .i64 e5.k, .int .i64 e5.n, .string e5.t, .slice e5.na e5.nl e5.nc, .slice e5.ia e5.il e5.ic] 25 (0, 0)) := by rw [hw6, hq6]; exact heap_at _ _ _ rfl
    have Hc6 := Lib.hid (Hc5.out.trans hc6)
    have Hv6 := Lib.hid (Hv5.out.same hc6)
    have Hb6 := Lib.hid hb6
    clear hc6 hb6
    unfold Ev.val
    go_upto_region 8 with fail
    rw [← hw6, ← hq6]
    clear hw6 hq6
    obtain ⟨b0, b1, b2, b3, b4⟩ := box_kept q6 Hb6.out (Chg.refl [] w6)
    go_wp2_with fail
    refine (Hen.out _ _ w6 Hc6.out _ Hv6.out).mono ?_
    rintro e w7 ⟨rfl, hc7⟩
    have Hc7 := Lib.hid (Hc6.out.trans hc7)
    clear hc7 b0 b1 b2 b3 b4
    go_wp2_with fail
    refine (HX.out w7 Hc7.out).mono ?_
    rintro e w8 ⟨rfl, hc8⟩
    have Hc8 := Lib.hid (Hc7.out.trans hc8)
    clear hc8
    have hd1 : decide ((t.size : Int) ≤ s.size) = true := decide_eq_true (by have := Hts.out; omega)
    have hd2 : decide (t.size ≤ s.size) = true := decide_eq_true Hts.out
    go_wp2_with fail
    go_ret
    exact ⟨rfl, Hc8.out⟩
  · have Hc2 := Lib.hid (Hc1.out.trans hc2)
    have hzb : (c != 0) = true := by simpa using hc
    clear hc2 hc
    obtain ⟨w3, hw3⟩ : ∃ x, x = w2.alloc (.cells #[.int .i64 0, .int .i64 0, .string ⟨#[]⟩, .slice none 0 0, .slice none 0 0] 25) := ⟨_, rfl⟩
    obtain ⟨q3, hq3⟩ : ∃ x, x = w2.heap.size := ⟨_, rfl⟩
    have hc3 : Chg [] w2 w3 := by rw [hw3]; exact (Chg.refl _ _).alloc _
    have hb3 : w3.heap[q3]? = some (.cells #[.int .i64 0, .int .i64 0, .string ⟨#[]⟩, .slice none 0 0, .slice none 0 0] 25 (0, 0)) := by rw [hw3, hq3]; exact heap_at _ _ _ rfl
    have Hc3 := Lib.hid (Hc2.out.trans hc3)
    have Hb3 := Lib.hid hb3
    clear hc3 hb3
    go_upto_region 4 with fail
    rw [← hw3, ← hq3]
    clear hw3 hq3
    go_wp2_with fail
    refine (HX.out w3 Hc3.out).mono ?_
    rintro e w4 ⟨rfl, hc4⟩
    obtain ⟨b0, b1, b2, b3, b4⟩ := box_kept q3 Hb3.out hc4
    have Hc4 := Lib.hid (Hc3.out.trans hc4)
    clear hc4
    go_wp2_with fail
    refine (ident_any _ _ J.zero 0 0 w4 _ _ (zero_is (B := 0)) (zero_is (B := 0))).mono ?_
    rintro e w5 ⟨rfl, hc5⟩
    have Hc5 := Lib.hid (Hc4.out.trans hc5)
    clear hc5
    go_wp2_with fail
    go_ret
    exact ⟨rfl, Hc5.out⟩
end Go.Proofs.YtpnaegfldkjikaaDoor.Jv
