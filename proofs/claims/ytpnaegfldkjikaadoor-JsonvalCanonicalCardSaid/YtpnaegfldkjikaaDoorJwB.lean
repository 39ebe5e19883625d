/- JSON texts: a value, kind by kind (printed by wip/gen_value.py). -/
import Derived.Test.YtpnaegfldkjikaaDoorJwA
namespace Go.Proofs.YtpnaegfldkjikaaDoor.Jv
open Go.RowKit Go.ChangeMaps Go.MapKept
set_option linter.unusedVariables false
set_option linter.unusedSimpArgs false
theorem skip_to (db : Nat) (s : ByteArray) (o0 o : Nat) (c : UInt8) (l : List UInt8) (w : World) (h : DS w db s o0) (hs : s.size ≤ 100000) (h0 : o0 ≤ s.size) (hk : skip (s.data.toList.drop o0) = s.data.toList.drop o) (hd : s.data.toList.drop o = c :: l) :
    Calls Tryd.prog 26 #[.pointer (some ⟨db, 0, none⟩)] w fun e w' => e = .returned (.tuple #[]) ∧ DS w' db s o ∧ Chg [db] w w' := by
  have hp := (peek_cons hd).2.1
  refine (skip_any db s o0 w h h0 hs).mono ?_
  rintro e w' ⟨rfl, o', h1, h2, h3, h4, h5⟩
  rw [hk] at h4
  have h6 := congrArg List.length h4
  rw [List.length_drop, List.length_drop] at h6
  have h7 : s.data.toList.length = s.size := rfl
  obtain rfl : o' = o := by omega
  exact ⟨rfl, h3, h5⟩
theorem accept_not (db : Nat) (s tok : ByteArray) (o : Nat) (c t0 : UInt8) (l tl : List UInt8) (w : World) (h : DS w db s o) (hs : s.size ≤ 100000) (hd : s.data.toList.drop o = c :: l) (ht : tok.data.toList = t0 :: tl) (hz : tok.size ≤ 100) (hne : (t0 == c) = false) :
    Calls Tryd.prog 37 #[.pointer (some ⟨db, 0, none⟩), .string tok] w fun e w' => e = .returned (.bool false) ∧ DS w' db s o ∧ Chg [db] w w' := by
  have hp := (peek_cons hd).2.1
  refine (accept_any db s tok o w h (by omega) hs hz).mono ?_
  rw [hd, ht, show Lib.hasPrefix (c :: l) (t0 :: tl) = false by simp [Lib.hasPrefix, List.isPrefixOf, hne]]
  exact fun e w' h => h
theorem accept_yes (db : Nat) (s tok : ByteArray) (o : Nat) (l : List UInt8) (w : World) (h : DS w db s o) (hs : s.size ≤ 100000) (hd : s.data.toList.drop o = tok.data.toList ++ l) (hz : tok.size ≤ 100) (ho : o ≤ s.size) :
    Calls Tryd.prog 37 #[.pointer (some ⟨db, 0, none⟩), .string tok] w fun e w' => e = .returned (.bool true) ∧ DS w' db s (o + tok.size) ∧ Chg [db] w w' := by
  refine (accept_any db s tok o w h ho hs hz).mono ?_
  rw [hd, show Lib.hasPrefix (tok.data.toList ++ l) tok.data.toList = true by simp [Lib.hasPrefix, List.isPrefixOf_iff_prefix]]
  exact fun e w' h => h
/-- the state while a value is read -/
structure VS (db b o : Nat) (s : ByteArray) (w wr : World) : Prop where
  ds : DS wr db s o
  res : wr.heap[b]? = some (.cells #[.int .i64 0, .int .i64 0, .string ⟨#[]⟩, .slice none 0 0, .slice none 0 0] 25 (0, 0))
  chg : Chg [db] w wr
  hb : b = w.heap.size
  hdb : db < b
theorem VS.db {db b o o' : Nat} {s : ByteArray} {w wr w' : World} (h : VS db b o s w wr) (hc : Chg [db] wr w') (hd : DS w' db s o') : VS db b o' s w w' :=
  ⟨hd, (hc.block b (lt_of_obj h.res) (by have := h.hdb; simp; omega)).trans h.res, h.chg.trans hc, h.hb, h.hdb⟩
theorem VS.done {db b o f : Nat} {s : ByteArray} {w wr : World} {e : Ev} {j : J} (h : VS db b o s w wr) (hv : JN (b + 1) f wr e.val j) : JN w.heap.size f (st5 wr b 0 e) e.val j ∧ DS (st5 wr b 0 e) db s o ∧ Chg [db] w (st5 wr b 0 e) := by
  have hcs := st5_chg wr b 0 e
  have hb := h.hb
  have hdb := h.hdb
  refine ⟨?_, (hcs.block db (lt_of_obj h.ds) (by simp; omega)).trans h.ds, h.chg.comp hcs fun g hg => Or.inr (by rw [List.mem_singleton.1 hg]; omega)⟩
  exact (hv.kept hcs.toP fun g hg hm => by have := List.mem_singleton.1 hm; have := hg.1; omega).imp fun g hg => ⟨by have := hg.1; omega, Nat.lt_of_lt_of_le hg.2 hcs.size⟩
/-- what 'value' gives -/
def VPost (db : Nat) (s : ByteArray) (o f : Nat) (j : J) (w : World) (e : Ending) (w' : World) : Prop := ∃ v', e = .returned v' ∧ JN w.heap.size f w' v' j ∧ DS w' db s o ∧ Chg [db] w w'
theorem JN.leaf {B f : Nat} {w : World} {k n : Int} {t : ByteArray} (ht : t.size ≤ maxLen) : JN B f w (Ev.val ⟨k, n, t, none, 0, 0, none, 0, 0⟩) (.mk k n t [] []) := JN.mk (SlR.nil _ _ _ _) (SlR.nil _ _ _ _) ht
/-- a first byte that opens none of the words -/
structure Nw (c : UInt8) : Prop where
  N_null : ((110 : UInt8) == c) = false
  N_true : ((116 : UInt8) == c) = false
  N_false : ((102 : UInt8) == c) = false
structure Nb (c : UInt8) : Prop where
  N_arr : ((91 : UInt8) == c) = false
  N_obj : ((123 : UInt8) == c) = false
set_option maxRecDepth 100000 in
set_option maxHeartbeats 8000000 in
theorem val_null (db f : Nat) (s : ByteArray) (hs : s.size ≤ 100000) (w : World) (o0 o : Nat) (r : List UInt8) (h : DS w db s o0) (hsk : o0 ≤ s.size ∧ skip (s.data.toList.drop o0) = s.data.toList.drop o) (hr : s.data.toList.drop o = [110, 117, 108, 108] ++ r) :
    Calls Tryd.prog 25 #[.pointer (some ⟨db, 0, none⟩)] w (VPost db s (o + 4) f J.zero w) := by
  obtain ⟨c, l, hc, hcc⟩ : ∃ c l, s.data.toList.drop o = c :: l ∧ c = 110 := ⟨_, _, hr, rfl⟩
  have hsp : True := trivial
  have hol := (peek_cons hc).2.1
  obtain ⟨b, hb⟩ : ∃ b, b = w.heap.size := ⟨_, rfl⟩
  obtain ⟨w1, hw1⟩ : ∃ x, x = w.alloc (.cells #[.int .i64 0, .int .i64 0, .string ⟨#[]⟩, .slice none 0 0, .slice none 0 0] 25) := ⟨_, rfl⟩
  have hc1 : Chg [] w w1 := by rw [hw1]; exact (Chg.refl [] w).alloc _
  have hdb := lt_of_obj h
  have Hsk := Lib.hid hsk
  have H1 : Hid (VS db b o0 s w w1) := Lib.hid ⟨h.new hc1, by rw [hw1, hb]; exact heap_at _ _ _ rfl, hc1.mono (by simp), hb, by omega⟩
  have Hc := Lib.hid hc
  have Hy : Hid (s.data.toList.drop o = (ByteArray.mk #[110, 117, 108, 108]).data.toList ++ r) := Lib.hid hr
  have hcd := Lib.hid hcc
  clear h hc1 hc hdb hsk hsp hr hcc
  go_enter Tryd.func25, Tryd.ntmps25
  go_upto_region 1 with fail
  rw [← hw1, ← hb]
  clear hw1 hb
  go_wp2_with fail
  refine (skip_to db s o0 o c l w1 H1.out.ds hs Hsk.out.1 Hsk.out.2 Hc.out).mono ?_
  rintro e w2 ⟨rfl, hd2, hc2⟩
  have H2 := Lib.hid (H1.out.db hc2 hd2)
  clear hd2 hc2
  go_wp2_with fail
  refine (accept_yes db s ⟨#[110, 117, 108, 108]⟩ o _ w2 H2.out.ds hs Hy.out (by decide) (by omega)).mono ?_
  rintro e vy ⟨rfl, hdx, hcx⟩
  have Vy := Lib.hid (H2.out.db hcx hdx)
  clear hdx hcx
  obtain ⟨r0, r1, r2, r3, r4⟩ := box_kept b Vy.out.res (Chg.refl [] vy)
  have fr := fun i => frozen_of_heap (i := i) Vy.out.res
  have lr := lt_of_cell r0
  go_wp2_with fail
  refine bodyPost_ret (v := Ev.val ⟨0, 0, ⟨#[]⟩, none, 0, 0, none, 0, 0⟩) (by unfold Ev.val; simp [results, Tryd.results25, go_sem, r0, r1, r2, r3, r4]) rfl ?_
  have hD := Vy.out.done (f := f) (e := ⟨0, 0, ⟨#[]⟩, none, 0, 0, none, 0, 0⟩) (JN.leaf (by decide))
  exact ⟨_, rfl, hD.1, hD.2.1, hD.2.2⟩
set_option maxRecDepth 100000 in
set_option maxHeartbeats 8000000 in
theorem val_true (db f : Nat) (s : ByteArray) (hs : s.size ≤ 100000) (w : World) (o0 o : Nat) (r : List UInt8) (h : DS w db s o0) (hsk : o0 ≤ s.size ∧ skip (s.data.toList.drop o0) = s.data.toList.drop o) (hr : s.data.toList.drop o = [116, 114, 117, 101] ++ r) :
    Calls Tryd.prog 25 #[.pointer (some ⟨db, 0, none⟩)] w (VPost db s (o + 4) f (.mk 1 1 ⟨#[]⟩ [] []) w) := by
  obtain ⟨c, l, hc, hcc⟩ : ∃ c l, s.data.toList.drop o = c :: l ∧ c = 116 := ⟨_, _, hr, rfl⟩
  have hsp : True := trivial
  have hol := (peek_cons hc).2.1
  obtain ⟨b, hb⟩ : ∃ b, b = w.heap.size := ⟨_, rfl⟩
  obtain ⟨w1, hw1⟩ : ∃ x, x = w.alloc (.cells #[.int .i64 0, .int .i64 0, .string ⟨#[]⟩, .slice none 0 0, .slice none 0 0] 25) := ⟨_, rfl⟩
  have hc1 : Chg [] w w1 := by rw [hw1]; exact (Chg.refl [] w).alloc _
  have hdb := lt_of_obj h
  have Hsk := Lib.hid hsk
  have H1 : Hid (VS db b o0 s w w1) := Lib.hid ⟨h.new hc1, by rw [hw1, hb]; exact heap_at _ _ _ rfl, hc1.mono (by simp), hb, by omega⟩
  have Hc := Lib.hid hc
  have Hy : Hid (s.data.toList.drop o = (ByteArray.mk #[116, 114, 117, 101]).data.toList ++ r) := Lib.hid hr
  have hcd := Lib.hid hcc
  clear h hc1 hc hdb hsk hsp hr hcc
  go_enter Tryd.func25, Tryd.ntmps25
  go_upto_region 1 with fail
  rw [← hw1, ← hb]
  clear hw1 hb
  go_wp2_with fail
  refine (skip_to db s o0 o c l w1 H1.out.ds hs Hsk.out.1 Hsk.out.2 Hc.out).mono ?_
  rintro e w2 ⟨rfl, hd2, hc2⟩
  have H2 := Lib.hid (H1.out.db hc2 hd2)
  clear hd2 hc2
  go_wp2_with fail
  refine (accept_not db s ⟨#[110, 117, 108, 108]⟩ o c 110 l _ w2 H2.out.ds hs Hc.out rfl (by decide) (by rw [hcd.out]; decide)).mono ?_
  rintro e v0 ⟨rfl, hdx, hcx⟩
  have V0 := Lib.hid (H2.out.db hcx hdx)
  clear hdx hcx
  go_wp2_with fail
  refine (accept_yes db s ⟨#[116, 114, 117, 101]⟩ o _ v0 V0.out.ds hs Hy.out (by decide) (by omega)).mono ?_
  rintro e vy ⟨rfl, hdx, hcx⟩
  have Vy := Lib.hid (V0.out.db hcx hdx)
  clear hdx hcx
  obtain ⟨r0, r1, r2, r3, r4⟩ := box_kept b Vy.out.res (Chg.refl [] vy)
  have fr := fun i => frozen_of_heap (i := i) Vy.out.res
  have lr := lt_of_cell r0
  go_wp2_with fail
  refine bodyPost_ret (v := Ev.val ⟨1, 1, ⟨#[]⟩, none, 0, 0, none, 0, 0⟩) (by unfold Ev.val; simp [results, Tryd.results25, go_sem, r0, r1, r2, r3, r4]) rfl ?_
  have hD := Vy.out.done (f := f) (e := ⟨1, 1, ⟨#[]⟩, none, 0, 0, none, 0, 0⟩) (JN.leaf (by decide))
  exact ⟨_, rfl, hD.1, hD.2.1, hD.2.2⟩
set_option maxRecDepth 100000 in
set_option maxHeartbeats 8000000 in
theorem val_false (db f : Nat) (s : ByteArray) (hs : s.size ≤ 100000) (w : World) (o0 o : Nat) (r : List UInt8) (h : DS w db s o0) (hsk : o0 ≤ s.size ∧ skip (s.data.toList.drop o0) = s.data.toList.drop o) (hr : s.data.toList.drop o = [102, 97, 108, 115, 101] ++ r) :
    Calls Tryd.prog 25 #[.pointer (some ⟨db, 0, none⟩)] w (VPost db s (o + 5) f (.mk 1 0 ⟨#[]⟩ [] []) w) := by
  obtain ⟨c, l, hc, hcc⟩ : ∃ c l, s.data.toList.drop o = c :: l ∧ c = 102 := ⟨_, _, hr, rfl⟩
  have hsp : True := trivial
  have hol := (peek_cons hc).2.1
  obtain ⟨b, hb⟩ : ∃ b, b = w.heap.size := ⟨_, rfl⟩
  obtain ⟨w1, hw1⟩ : ∃ x, x = w.alloc (.cells #[.int .i64 0, .int .i64 0, .string ⟨#[]⟩, .slice none 0 0, .slice none 0 0] 25) := ⟨_, rfl⟩
  have hc1 : Chg [] w w1 := by rw [hw1]; exact (Chg.refl [] w).alloc _
  have hdb := lt_of_obj h
  have Hsk := Lib.hid hsk
  have H1 : Hid (VS db b o0 s w w1) := Lib.hid ⟨h.new hc1, by rw [hw1, hb]; exact heap_at _ _ _ rfl, hc1.mono (by simp), hb, by omega⟩
  have Hc := Lib.hid hc
  have Hy : Hid (s.data.toList.drop o = (ByteArray.mk #[102, 97, 108, 115, 101]).data.toList ++ r) := Lib.hid hr
  have hcd := Lib.hid hcc
  clear h hc1 hc hdb hsk hsp hr hcc
  go_enter Tryd.func25, Tryd.ntmps25
  go_upto_region 1 with fail
  rw [← hw1, ← hb]
  clear hw1 hb
  go_wp2_with fail
  refine (skip_to db s o0 o c l w1 H1.out.ds hs Hsk.out.1 Hsk.out.2 Hc.out).mono ?_
  rintro e w2 ⟨rfl, hd2, hc2⟩
  have H2 := Lib.hid (H1.out.db hc2 hd2)
  clear hd2 hc2
  go_wp2_with fail
  refine (accept_not db s ⟨#[110, 117, 108, 108]⟩ o c 110 l _ w2 H2.out.ds hs Hc.out rfl (by decide) (by rw [hcd.out]; decide)).mono ?_
  rintro e v0 ⟨rfl, hdx, hcx⟩
  have V0 := Lib.hid (H2.out.db hcx hdx)
  clear hdx hcx
  go_wp2_with fail
  refine (accept_not db s ⟨#[116, 114, 117, 101]⟩ o c 116 l _ v0 V0.out.ds hs Hc.out rfl (by decide) (by rw [hcd.out]; decide)).mono ?_
  rintro e v1 ⟨rfl, hdx, hcx⟩
  have V1 := Lib.hid (V0.out.db hcx hdx)
  clear hdx hcx
  go_wp2_with fail
  refine (accept_yes db s ⟨#[102, 97, 108, 115, 101]⟩ o _ v1 V1.out.ds hs Hy.out (by decide) (by omega)).mono ?_
  rintro e vy ⟨rfl, hdx, hcx⟩
  have Vy := Lib.hid (V1.out.db hcx hdx)
  clear hdx hcx
  obtain ⟨r0, r1, r2, r3, r4⟩ := box_kept b Vy.out.res (Chg.refl [] vy)
  have fr := fun i => frozen_of_heap (i := i) Vy.out.res
  have lr := lt_of_cell r0
  go_wp2_with fail
  refine bodyPost_ret (v := Ev.val ⟨1, 0, ⟨#[]⟩, none, 0, 0, none, 0, 0⟩) (by unfold Ev.val; simp [results, Tryd.results25, go_sem, r0, r1, r2, r3, r4]) rfl ?_
  have hD := Vy.out.done (f := f) (e := ⟨1, 0, ⟨#[]⟩, none, 0, 0, none, 0, 0⟩) (JN.leaf (by decide))
  exact ⟨_, rfl, hD.1, hD.2.1, hD.2.2⟩
set_option maxRecDepth 100000 in
set_option maxHeartbeats 8000000 in
theorem val_text (db f : Nat) (s t : ByteArray) (hs : s.size ≤ 100000) (hTd : Tryd.laysValid_ren.g 3 ≠ db ∧ Tryd.laysValid_ren.g 4 ≠ db) (hu : u8 t = true) (w : World) (o0 o : Nat) (r : List UInt8) (h : DS w db s o0) (hsk : o0 ≤ s.size ∧ skip (s.data.toList.drop o0) = s.data.toList.drop o) (hT : Tb w) (hr : s.data.toList.drop o = encS t ++ r) :
    Calls Tryd.prog 25 #[.pointer (some ⟨db, 0, none⟩)] w (VPost db s (o + (encS t).length) f (.mk 3 0 t [] []) w) := by
  obtain ⟨c, l, hc, hcc⟩ : ∃ c l, s.data.toList.drop o = c :: l ∧ c = 34 := ⟨_, _, hr, rfl⟩
  have hsp : True := trivial
  have hts : t.size ≤ maxLen := by
    have h1 := congrArg List.length hr
    have h2 := encS_len t
    have h4 : s.data.toList.length = s.size := rfl
    rw [List.length_drop, List.length_append] at h1
    unfold maxLen
    omega
  have hol := (peek_cons hc).2.1
  obtain ⟨b, hb⟩ : ∃ b, b = w.heap.size := ⟨_, rfl⟩
  obtain ⟨w1, hw1⟩ : ∃ x, x = w.alloc (.cells #[.int .i64 0, .int .i64 0, .string ⟨#[]⟩, .slice none 0 0, .slice none 0 0] 25) := ⟨_, rfl⟩
  have hc1 : Chg [] w w1 := by rw [hw1]; exact (Chg.refl [] w).alloc _
  have hdb := lt_of_obj h
  have Hsk := Lib.hid hsk
  have H1 : Hid (VS db b o0 s w w1) := Lib.hid ⟨h.new hc1, by rw [hw1, hb]; exact heap_at _ _ _ rfl, hc1.mono (by simp), hb, by omega⟩
  have Hc := Lib.hid hc
  have Hr := Lib.hid hr
  have HT := Lib.hid hT
  have Hts := Lib.hid hts
  have Hne : Hid (Nw c) := Lib.hid (by rw [hcc]; exact ⟨by decide, by decide, by decide⟩)
  have Hpk : Hid (peekL (s.data.toList.drop o) = 34) := Lib.hid (by rw [hc, hcc]; rfl)
  clear h hc1 hc hdb hsk hsp hr hT hts hcc
  go_enter Tryd.func25, Tryd.ntmps25
  go_upto_region 1 with fail
  rw [← hw1, ← hb]
  clear hw1 hb
  go_wp2_with fail
  refine (skip_to db s o0 o c l w1 H1.out.ds hs Hsk.out.1 Hsk.out.2 Hc.out).mono ?_
  rintro e w2 ⟨rfl, hd2, hc2⟩
  have H2 := Lib.hid (H1.out.db hc2 hd2)
  clear hd2 hc2
  go_wp2_with fail
  refine (accept_not db s ⟨#[110, 117, 108, 108]⟩ o c 110 l _ w2 H2.out.ds hs Hc.out rfl (by decide) (Hne.out.N_null)).mono ?_
  rintro e v0 ⟨rfl, hdx, hcx⟩
  have V0 := Lib.hid (H2.out.db hcx hdx)
  clear hdx hcx
  go_wp2_with fail
  refine (accept_not db s ⟨#[116, 114, 117, 101]⟩ o c 116 l _ v0 V0.out.ds hs Hc.out rfl (by decide) (Hne.out.N_true)).mono ?_
  rintro e v1 ⟨rfl, hdx, hcx⟩
  have V1 := Lib.hid (V0.out.db hcx hdx)
  clear hdx hcx
  go_wp2_with fail
  refine (accept_not db s ⟨#[102, 97, 108, 115, 101]⟩ o c 102 l _ v1 V1.out.ds hs Hc.out rfl (by decide) (Hne.out.N_false)).mono ?_
  rintro e v2 ⟨rfl, hdx, hcx⟩
  have V2 := Lib.hid (V1.out.db hcx hdx)
  clear hdx hcx
  go_wp2_with fail
  refine (peek_any db s o v2 V2.out.ds hs).mono ?_
  rintro e vp ⟨rfl, hcp⟩
  have Vp := Lib.hid (V2.out.db (hcp.mono (by simp)) (V2.out.ds.new hcp))
  clear hcp
  rw [Hpk.out]
  go_wp2_with fail
  refine (text_yes db s t o r vp Vp.out.ds hs Hr.out (tb_db HT.out hTd Vp.out.chg) hTd hu).mono ?_
  rintro e vy ⟨rfl, hdx, hcx⟩
  have Vy := Lib.hid (Vp.out.db hcx hdx)
  clear hdx hcx
  obtain ⟨r0, r1, r2, r3, r4⟩ := box_kept b Vy.out.res (Chg.refl [] vy)
  have fr := fun i => frozen_of_heap (i := i) Vy.out.res
  have lr := lt_of_cell r0
  go_wp2_with fail
  refine bodyPost_ret (v := Ev.val ⟨3, 0, t, none, 0, 0, none, 0, 0⟩) (by unfold Ev.val; simp [results, Tryd.results25, go_sem, r0, r1, r2, r3, r4]) rfl ?_
  have hD := Vy.out.done (f := f) (e := ⟨3, 0, t, none, 0, 0, none, 0, 0⟩) (JN.leaf Hts.out)
  exact ⟨_, rfl, hD.1, hD.2.1, hD.2.2⟩
set_option maxRecDepth 100000 in
set_option maxHeartbeats 8000000 in
theorem val_arr (db f : Nat) (s : ByteArray) (hs : s.size ≤ 100000) (ns : List ByteArray) (es : List J) (hk : ns = []) (hu : ∀ t ∈ ns, u8 t = true) (hle : es.length ≤ 400) (hV : ∀ e ∈ es, VOk db s f e)
    (hTd : Tryd.laysValid_ren.g 3 ≠ db ∧ Tryd.laysValid_ren.g 4 ≠ db) (w : World) (o0 o : Nat) (r : List UInt8) (h : DS w db s o0) (hsk : o0 ≤ s.size ∧ skip (s.data.toList.drop o0) = s.data.toList.drop o) (hT : Tb w) (hr : s.data.toList.drop o = 91 :: (encL 4 0 ns es ++ 93 :: r)) :
    Calls Tryd.prog 25 #[.pointer (some ⟨db, 0, none⟩)] w (VPost db s (o + 1 + (encL 4 0 ns es).length + 1) (f + 1) (.mk 4 0 ⟨#[]⟩ ns es) w) := by
  obtain ⟨c, l, hc, hcc⟩ : ∃ c l, s.data.toList.drop o = c :: l ∧ c = 91 := ⟨_, _, hr, rfl⟩
  have hsp : True := trivial
  have hol := (peek_cons hc).2.1
  obtain ⟨b, hb⟩ : ∃ b, b = w.heap.size := ⟨_, rfl⟩
  obtain ⟨w1, hw1⟩ : ∃ x, x = w.alloc (.cells #[.int .i64 0, .int .i64 0, .string ⟨#[]⟩, .slice none 0 0, .slice none 0 0] 25) := ⟨_, rfl⟩
  have hc1 : Chg [] w w1 := by rw [hw1]; exact (Chg.refl [] w).alloc _
  have hdb := lt_of_obj h
  have Hsk := Lib.hid hsk
  have H1 : Hid (VS db b o0 s w w1) := Lib.hid ⟨h.new hc1, by rw [hw1, hb]; exact heap_at _ _ _ rfl, hc1.mono (by simp), hb, by omega⟩
  have Hc := Lib.hid hc
  have Hy : Hid (s.data.toList.drop o = (ByteArray.mk #[91]).data.toList ++ (encL 4 0 ns es ++ 93 :: r)) := Lib.hid hr
  have Hr : Hid (s.data.toList.drop (o + 1) = encL 4 0 ns es ++ 93 :: r) := Lib.hid (by rw [← List.drop_drop, hr]; rfl)
  have HT := Lib.hid hT
  have Hk := Lib.hid hk
  have Hne : Hid (Nw c) := Lib.hid (by rw [hcc]; exact ⟨by decide, by decide, by decide⟩)
  have Hcc := Lib.hid hcc
  have Hpk : Hid (peekL (s.data.toList.drop o) = 91) := Lib.hid (by rw [hc, hcc]; rfl)
  clear h hc1 hc hdb hsk hsp hr hT hcc hk
  go_enter Tryd.func25, Tryd.ntmps25
  go_upto_region 1 with fail
  rw [← hw1, ← hb]
  clear hw1 hb
  go_wp2_with fail
  refine (skip_to db s o0 o c l w1 H1.out.ds hs Hsk.out.1 Hsk.out.2 Hc.out).mono ?_
  rintro e w2 ⟨rfl, hd2, hc2⟩
  have H2 := Lib.hid (H1.out.db hc2 hd2)
  clear hd2 hc2
  go_wp2_with fail
  refine (accept_not db s ⟨#[110, 117, 108, 108]⟩ o c 110 l _ w2 H2.out.ds hs Hc.out rfl (by decide) (Hne.out.N_null)).mono ?_
  rintro e v0 ⟨rfl, hdx, hcx⟩
  have V0 := Lib.hid (H2.out.db hcx hdx)
  clear hdx hcx
  go_wp2_with fail
  refine (accept_not db s ⟨#[116, 114, 117, 101]⟩ o c 116 l _ v0 V0.out.ds hs Hc.out rfl (by decide) (Hne.out.N_true)).mono ?_
  rintro e v1 ⟨rfl, hdx, hcx⟩
  have V1 := Lib.hid (V0.out.db hcx hdx)
  clear hdx hcx
  go_wp2_with fail
  refine (accept_not db s ⟨#[102, 97, 108, 115, 101]⟩ o c 102 l _ v1 V1.out.ds hs Hc.out rfl (by decide) (Hne.out.N_false)).mono ?_
  rintro e v2 ⟨rfl, hdx, hcx⟩
  have V2 := Lib.hid (V1.out.db hcx hdx)
  clear hdx hcx
  go_wp2_with fail
  refine (peek_any db s o v2 V2.out.ds hs).mono ?_
  rintro e vp ⟨rfl, hcp⟩
  have Vp := Lib.hid (V2.out.db (hcp.mono (by simp)) (V2.out.ds.new hcp))
  clear hcp
  rw [Hpk.out]
  go_wp2_with fail
  refine (accept_yes db s ⟨#[91]⟩ o _ vp Vp.out.ds hs Hy.out (by decide) (by omega)).mono ?_
  rintro e vb ⟨rfl, hdx, hcx⟩
  have Vb := Lib.hid (Vp.out.db hcx hdx)
  clear hdx hcx
  go_wp2_with fail
  refine (elements_yes db f s hs 4 93 ns es (Or.inl ⟨rfl, rfl, Hk.out⟩) hu hle hV hTd vb (o + 1) r Vb.out.ds (tb_db HT.out hTd Vb.out.chg) Hr.out).mono ?_
  rintro e vy ⟨v', rfl, hv, hdx, hcx⟩
  obtain ⟨ev, rfl⟩ := hv.ev'
  have Vy := Lib.hid (Vb.out.db hcx hdx)
  have Hv := Lib.hid (hv.base (B' := b + 1) (lt_of_obj Vb.out.res))
  clear hv hdx hcx
  unfold Ev.val
  obtain ⟨r0, r1, r2, r3, r4⟩ := box_kept b Vy.out.res (Chg.refl [] vy)
  have fr := fun i => frozen_of_heap (i := i) Vy.out.res
  have lr := lt_of_cell r0
  go_wp2_with fail
  refine bodyPost_ret (v := Ev.val ev) (by unfold Ev.val; simp [results, Tryd.results25, go_sem, r0, r1, r2, r3, r4]) rfl ?_
  have hD := Vy.out.done (f := f + 1) (e := ev) Hv.out
  exact ⟨_, rfl, hD.1, hD.2.1, hD.2.2⟩
set_option maxRecDepth 100000 in
set_option maxHeartbeats 8000000 in
theorem val_obj (db f : Nat) (s : ByteArray) (hs : s.size ≤ 100000) (ns : List ByteArray) (es : List J) (hk : ns.length = es.length ∧ ns.Nodup) (hu : ∀ t ∈ ns, u8 t = true) (hle : es.length ≤ 400) (hV : ∀ e ∈ es, VOk db s f e)
    (hTd : Tryd.laysValid_ren.g 3 ≠ db ∧ Tryd.laysValid_ren.g 4 ≠ db) (w : World) (o0 o : Nat) (r : List UInt8) (h : DS w db s o0) (hsk : o0 ≤ s.size ∧ skip (s.data.toList.drop o0) = s.data.toList.drop o) (hT : Tb w) (hr : s.data.toList.drop o = 123 :: (encL 5 0 ns es ++ 125 :: r)) :
    Calls Tryd.prog 25 #[.pointer (some ⟨db, 0, none⟩)] w (VPost db s (o + 1 + (encL 5 0 ns es).length + 1) (f + 1) (.mk 5 0 ⟨#[]⟩ ns es) w) := by
  obtain ⟨c, l, hc, hcc⟩ : ∃ c l, s.data.toList.drop o = c :: l ∧ c = 123 := ⟨_, _, hr, rfl⟩
  have hsp : True := trivial
  have hol := (peek_cons hc).2.1
  obtain ⟨b, hb⟩ : ∃ b, b = w.heap.size := ⟨_, rfl⟩
  obtain ⟨w1, hw1⟩ : ∃ x, x = w.alloc (.cells #[.int .i64 0, .int .i64 0, .string ⟨#[]⟩, .slice none 0 0, .slice none 0 0] 25) := ⟨_, rfl⟩
  have hc1 : Chg [] w w1 := by rw [hw1]; exact (Chg.refl [] w).alloc _
  have hdb := lt_of_obj h
  have Hsk := Lib.hid hsk
  have H1 : Hid (VS db b o0 s w w1) := Lib.hid ⟨h.new hc1, by rw [hw1, hb]; exact heap_at _ _ _ rfl, hc1.mono (by simp), hb, by omega⟩
  have Hc := Lib.hid hc
  have Hy : Hid (s.data.toList.drop o = (ByteArray.mk #[123]).data.toList ++ (encL 5 0 ns es ++ 125 :: r)) := Lib.hid hr
  have Hr : Hid (s.data.toList.drop (o + 1) = encL 5 0 ns es ++ 125 :: r) := Lib.hid (by rw [← List.drop_drop, hr]; rfl)
  have HT := Lib.hid hT
  have Hk := Lib.hid hk
  have Hne : Hid (Nw c) := Lib.hid (by rw [hcc]; exact ⟨by decide, by decide, by decide⟩)
  have Hcc := Lib.hid hcc
  have Hpk : Hid (peekL (s.data.toList.drop o) = 123) := Lib.hid (by rw [hc, hcc]; rfl)
  clear h hc1 hc hdb hsk hsp hr hT hcc hk
  go_enter Tryd.func25, Tryd.ntmps25
  go_upto_region 1 with fail
  rw [← hw1, ← hb]
  clear hw1 hb
  go_wp2_with fail
  refine (skip_to db s o0 o c l w1 H1.out.ds hs Hsk.out.1 Hsk.out.2 Hc.out).mono ?_
  rintro e w2 ⟨rfl, hd2, hc2⟩
  have H2 := Lib.hid (H1.out.db hc2 hd2)
  clear hd2 hc2
  go_wp2_with fail
  refine (accept_not db s ⟨#[110, 117, 108, 108]⟩ o c 110 l _ w2 H2.out.ds hs Hc.out rfl (by decide) (Hne.out.N_null)).mono ?_
  rintro e v0 ⟨rfl, hdx, hcx⟩
  have V0 := Lib.hid (H2.out.db hcx hdx)
  clear hdx hcx
  go_wp2_with fail
  refine (accept_not db s ⟨#[116, 114, 117, 101]⟩ o c 116 l _ v0 V0.out.ds hs Hc.out rfl (by decide) (Hne.out.N_true)).mono ?_
  rintro e v1 ⟨rfl, hdx, hcx⟩
  have V1 := Lib.hid (V0.out.db hcx hdx)
  clear hdx hcx
  go_wp2_with fail
  refine (accept_not db s ⟨#[102, 97, 108, 115, 101]⟩ o c 102 l _ v1 V1.out.ds hs Hc.out rfl (by decide) (Hne.out.N_false)).mono ?_
  rintro e v2 ⟨rfl, hdx, hcx⟩
  have V2 := Lib.hid (V1.out.db hcx hdx)
  clear hdx hcx
  go_wp2_with fail
  refine (peek_any db s o v2 V2.out.ds hs).mono ?_
  rintro e vp ⟨rfl, hcp⟩
  have Vp := Lib.hid (V2.out.db (hcp.mono (by simp)) (V2.out.ds.new hcp))
  clear hcp
  rw [Hpk.out]
  go_wp2_with fail
  refine (accept_not db s ⟨#[91]⟩ o c 91 l _ vp Vp.out.ds hs Hc.out rfl (by decide) (by rw [Hcc.out]; decide)).mono ?_
  rintro e va ⟨rfl, hdx, hcx⟩
  have Va := Lib.hid (Vp.out.db hcx hdx)
  clear hdx hcx
  go_wp2_with fail
  refine (accept_yes db s ⟨#[123]⟩ o _ va Va.out.ds hs Hy.out (by decide) (by omega)).mono ?_
  rintro e vb ⟨rfl, hdx, hcx⟩
  have Vb := Lib.hid (Va.out.db hcx hdx)
  clear hdx hcx
  go_wp2_with fail
  refine (elements_yes db f s hs 5 125 ns es (Or.inr ⟨rfl, rfl, Hk.out.1, Hk.out.2⟩) hu hle hV hTd vb (o + 1) r Vb.out.ds (tb_db HT.out hTd Vb.out.chg) Hr.out).mono ?_
  rintro e vy ⟨v', rfl, hv, hdx, hcx⟩
  obtain ⟨ev, rfl⟩ := hv.ev'
  have Vy := Lib.hid (Vb.out.db hcx hdx)
  have Hv := Lib.hid (hv.base (B' := b + 1) (lt_of_obj Vb.out.res))
  clear hv hdx hcx
  unfold Ev.val
  obtain ⟨r0, r1, r2, r3, r4⟩ := box_kept b Vy.out.res (Chg.refl [] vy)
  have fr := fun i => frozen_of_heap (i := i) Vy.out.res
  have lr := lt_of_cell r0
  go_wp2_with fail
  refine bodyPost_ret (v := Ev.val ev) (by unfold Ev.val; simp [results, Tryd.results25, go_sem, r0, r1, r2, r3, r4]) rfl ?_
  have hD := Vy.out.done (f := f + 1) (e := ev) Hv.out
  exact ⟨_, rfl, hD.1, hD.2.1, hD.2.2⟩
set_option maxRecDepth 100000 in
set_option maxHeartbeats 8000000 in
theorem val_num (db f : Nat) (s : ByteArray) (hs : s.size ≤ 100000) (n : Int) (hn0 : -9007199254740991 ≤ n) (hn1 : n ≤ 9007199254740991) (w : World) (o0 o : Nat) (r : List UInt8) (h : DS w db s o0) (hsk : o0 ≤ s.size ∧ skip (s.data.toList.drop o0) = s.data.toList.drop o) (hr : s.data.toList.drop o = Lib.itoa n ++ r) (hrd : peekL r < 48 ∨ 57 < peekL r) :
    Calls Tryd.prog 25 #[.pointer (some ⟨db, 0, none⟩)] w (VPost db s (o + (Lib.itoa n).length) f (.mk 2 n ⟨#[]⟩ [] []) w) := by
  have hr2 : s.data.toList.drop o = sg n ++ (Lib.decDigits n.natAbs ++ r) := by rw [hr, itoa_sg, List.append_assoc]
  obtain ⟨c, l, hc, hcc⟩ : ∃ c l, s.data.toList.drop o = c :: l ∧ (c.toNat = 45 ∨ (48 ≤ c.toNat ∧ c.toNat ≤ 57)) := by
    rw [hr2]
    unfold sg
    split
    · exact ⟨45, _, rfl, Or.inl rfl⟩
    · have h1 := dig_all n.natAbs
      have h2 := dig_ne n.natAbs
      generalize Lib.decDigits n.natAbs = L at h1 h2
      cases L with
      | nil => simp at h2
      | cons c l => exact ⟨c, _, rfl, Or.inr (h1 c (by simp))⟩
  have hq : ∀ a : UInt8, a.toNat ≠ 45 → (a.toNat < 48 ∨ 57 < a.toNat) → (a == c) = false ∧ (c == a) = false := fun a h1 h2 => ⟨beq_eq_false_iff_ne.2 fun h => by subst h; omega, beq_eq_false_iff_ne.2 fun h => by subst h; omega⟩
  have hsp : True := trivial
  have hol := (peek_cons hc).2.1
  obtain ⟨b, hb⟩ : ∃ b, b = w.heap.size := ⟨_, rfl⟩
  obtain ⟨w1, hw1⟩ : ∃ x, x = w.alloc (.cells #[.int .i64 0, .int .i64 0, .string ⟨#[]⟩, .slice none 0 0, .slice none 0 0] 25) := ⟨_, rfl⟩
  have hc1 : Chg [] w w1 := by rw [hw1]; exact (Chg.refl [] w).alloc _
  have hdb := lt_of_obj h
  have Hsk := Lib.hid hsk
  have H1 : Hid (VS db b o0 s w w1) := Lib.hid ⟨h.new hc1, by rw [hw1, hb]; exact heap_at _ _ _ rfl, hc1.mono (by simp), hb, by omega⟩
  have Hc := Lib.hid hc
  have Hr := Lib.hid hr2
  have Hne : Hid (Nw c) := Lib.hid ⟨(hq _ (by decide) (by decide)).1, (hq _ (by decide) (by decide)).1, (hq _ (by decide) (by decide)).1⟩
  have Hnb : Hid (Nb c) := Lib.hid ⟨(hq _ (by decide) (by decide)).1, (hq _ (by decide) (by decide)).1⟩
  obtain ⟨pk, hpk⟩ : ∃ pk, pk = peekL (s.data.toList.drop o) := ⟨_, rfl⟩
  have hp34 : ((pk : Int) == 34) = false := by
    have h1 : pk = c.toNat := by rw [hpk, hc]; rfl
    have h2 : (pk : Int) ≠ 34 := by omega
    simpa using h2
  have Hpk := Lib.hid hpk
  clear hpk
  clear h hc1 hc hdb hsk hsp hr hr2 hcc hq
  go_enter Tryd.func25, Tryd.ntmps25
  go_upto_region 1 with fail
  rw [← hw1, ← hb]
  clear hw1 hb
  go_wp2_with fail
  refine (skip_to db s o0 o c l w1 H1.out.ds hs Hsk.out.1 Hsk.out.2 Hc.out).mono ?_
  rintro e w2 ⟨rfl, hd2, hc2⟩
  have H2 := Lib.hid (H1.out.db hc2 hd2)
  clear hd2 hc2
  go_wp2_with fail
  refine (accept_not db s ⟨#[110, 117, 108, 108]⟩ o c 110 l _ w2 H2.out.ds hs Hc.out rfl (by decide) (Hne.out.N_null)).mono ?_
  rintro e v0 ⟨rfl, hdx, hcx⟩
  have V0 := Lib.hid (H2.out.db hcx hdx)
  clear hdx hcx
  go_wp2_with fail
  refine (accept_not db s ⟨#[116, 114, 117, 101]⟩ o c 116 l _ v0 V0.out.ds hs Hc.out rfl (by decide) (Hne.out.N_true)).mono ?_
  rintro e v1 ⟨rfl, hdx, hcx⟩
  have V1 := Lib.hid (V0.out.db hcx hdx)
  clear hdx hcx
  go_wp2_with fail
  refine (accept_not db s ⟨#[102, 97, 108, 115, 101]⟩ o c 102 l _ v1 V1.out.ds hs Hc.out rfl (by decide) (Hne.out.N_false)).mono ?_
  rintro e v2 ⟨rfl, hdx, hcx⟩
  have V2 := Lib.hid (V1.out.db hcx hdx)
  clear hdx hcx
  go_wp2_with fail
  refine (peek_any db s o v2 V2.out.ds hs).mono ?_
  rintro e vp ⟨rfl, hcp⟩
  have Vp := Lib.hid (V2.out.db (hcp.mono (by simp)) (V2.out.ds.new hcp))
  clear hcp
  rw [← Hpk.out]
  go_wp2_with fail
  refine (accept_not db s ⟨#[91]⟩ o c 91 l _ vp Vp.out.ds hs Hc.out rfl (by decide) (Hnb.out.N_arr)).mono ?_
  rintro e varr ⟨rfl, hdx, hcx⟩
  have Varr := Lib.hid (Vp.out.db hcx hdx)
  clear hdx hcx
  go_wp2_with fail
  refine (accept_not db s ⟨#[123]⟩ o c 123 l _ varr Varr.out.ds hs Hc.out rfl (by decide) (Hnb.out.N_obj)).mono ?_
  rintro e vobj ⟨rfl, hdx, hcx⟩
  have Vobj := Lib.hid (Varr.out.db hcx hdx)
  clear hdx hcx
  go_wp2_with fail
  refine (number_yes db s o n r vobj Vobj.out.ds hs Hr.out hn0 hn1 hrd).mono ?_
  rintro e vy ⟨rfl, hdx, hcx⟩
  have Vy := Lib.hid (Vobj.out.db hcx hdx)
  clear hdx hcx
  obtain ⟨r0, r1, r2, r3, r4⟩ := box_kept b Vy.out.res (Chg.refl [] vy)
  have fr := fun i => frozen_of_heap (i := i) Vy.out.res
  have lr := lt_of_cell r0
  go_wp2_with fail
  refine bodyPost_ret (v := Ev.val ⟨2, n, ⟨#[]⟩, none, 0, 0, none, 0, 0⟩) (by unfold Ev.val; simp [results, Tryd.results25, go_sem, r0, r1, r2, r3, r4]) rfl ?_
  have hD := Vy.out.done (f := f) (e := ⟨2, n, ⟨#[]⟩, none, 0, 0, none, 0, 0⟩) (JN.leaf (by decide))
  exact ⟨_, rfl, hD.1, hD.2.1, hD.2.2⟩
end Go.Proofs.YtpnaegfldkjikaaDoor.Jv
