/- JSON texts: escape. -/
import Derived.Test.YtpnaegfldkjikaaDoorJvV
namespace Go.Proofs.YtpnaegfldkjikaaDoor.Jv
open Go.RowKit Go.ChangeMaps Go.MapKept
set_option linter.unusedVariables false
set_option linter.unusedSimpArgs false
def EscPost (B b db : Nat) (s : ByteArray) (o : Nat) (l : List UInt8) (w0 : World) (e : Ending) (w' : World) : Prop := e = .returned (.tuple #[]) ∧ TS B b db s o l w0 w'
theorem ib_any (q : Nat) (hq : q < 256) (W : World) : Calls Tryd.prog 42 #[.string ⟨#[98, 116, 110, 102, 114]⟩, .int .u8 (q : Nat)] W fun e w' => e = .returned (.int .i64 (ixl q)) ∧ w' = W := by
  have h := Tryd.strings_IndexByte ⟨#[98, 116, 110, 102, 114]⟩ (q : Nat) W
  rw [show (ByteArray.mk #[98, 116, 110, 102, 114]).data.toList = [98, 116, 110, 102, 114] from rfl, ixl_eq q hq] at h
  exact h
set_option maxRecDepth 100000 in
set_option maxHeartbeats 8000000 in
theorem esc_quote (B b db : Nat) (s : ByteArray) (o : Nat) (l : List UInt8) (w0 w : World) (r : List UInt8) (h : TS B b db s o l w0 w) (hdb : db < B) (hs : s.size ≤ 100000) (hl : l.length ≤ 100000) (hr : s.data.toList.drop o = 34 :: r) :
    Calls Tryd.prog 52 #[.pointer (some ⟨db, 0, none⟩), .pointer (some ⟨b, 0, none⟩)] w (EscPost B b db s (o + 1) (l ++ [34]) w0) := by
  have He := Lib.hid (fun W => expect_any db true W)
  have Hpk := Lib.hid (peek_any db s o w h.ds hs)
  have H := Lib.hid h
  have Hib := Lib.hid (fun W => ib_any 34 (by decide) W)
  obtain ⟨hp1, hp2, hp3⟩ := peek_cons hr
  rw [hp1] at Hpk
  have Hdb := Lib.hid hdb
  have hol : (o : Int) < s.size := by omega
  have Hr := Lib.hid hp3
  clear h hr hp1 hp3
  go_enter Tryd.func52, Tryd.ntmps52
  go_wp2_with fail
  refine Hpk.out.mono ?_
  rintro e w1 ⟨rfl, hc1⟩
  have H1 := Lib.hid (H.out.new hc1)
  have c0 := H1.out.ds.c0
  have c1 := H1.out.ds.c1
  have f1 := H1.out.ds.fz 1
  have lb := lt_of_cell c0
  clear hc1
  have H2 : Hid (TS B b db s (o + 1) l w0 (w1.setCell ⟨db, 1, none⟩ (.int .i64 ((o : Int) + 1)))) := Lib.hid (H1.out.db (set_chg _ _ _) (H1.out.ds.setI (by omega)) Hdb.out)
  go_wp2_with fail
  refine (Hib.out _).mono ?_
  rintro e w2 ⟨rfl, rfl⟩
  rw [show ixl 34 = -1 from rfl]
  go_wp2_with fail
  refine (wb_any B b l 34 _ H2.out.bw (by decide) (by omega) H2.out.B).mono ?_
  rintro e w4 ⟨rfl, hb4, hc4, _⟩
  have H4 := Lib.hid (H2.out.wr hb4 hc4 Hdb.out)
  clear hb4 hc4
  go_wp2_with fail
  go_end0
  exact ⟨rfl, H4.out⟩
set_option maxRecDepth 100000 in
set_option maxHeartbeats 8000000 in
theorem esc_back (B b db : Nat) (s : ByteArray) (o : Nat) (l : List UInt8) (w0 w : World) (r : List UInt8) (h : TS B b db s o l w0 w) (hdb : db < B) (hs : s.size ≤ 100000) (hl : l.length ≤ 100000) (hr : s.data.toList.drop o = 92 :: r) :
    Calls Tryd.prog 52 #[.pointer (some ⟨db, 0, none⟩), .pointer (some ⟨b, 0, none⟩)] w (EscPost B b db s (o + 1) (l ++ [92]) w0) := by
  have He := Lib.hid (fun W => expect_any db true W)
  have Hpk := Lib.hid (peek_any db s o w h.ds hs)
  have H := Lib.hid h
  have Hib := Lib.hid (fun W => ib_any 92 (by decide) W)
  obtain ⟨hp1, hp2, hp3⟩ := peek_cons hr
  rw [hp1] at Hpk
  have Hdb := Lib.hid hdb
  have hol : (o : Int) < s.size := by omega
  have Hr := Lib.hid hp3
  clear h hr hp1 hp3
  go_enter Tryd.func52, Tryd.ntmps52
  go_wp2_with fail
  refine Hpk.out.mono ?_
  rintro e w1 ⟨rfl, hc1⟩
  have H1 := Lib.hid (H.out.new hc1)
  have c0 := H1.out.ds.c0
  have c1 := H1.out.ds.c1
  have f1 := H1.out.ds.fz 1
  have lb := lt_of_cell c0
  clear hc1
  have H2 : Hid (TS B b db s (o + 1) l w0 (w1.setCell ⟨db, 1, none⟩ (.int .i64 ((o : Int) + 1)))) := Lib.hid (H1.out.db (set_chg _ _ _) (H1.out.ds.setI (by omega)) Hdb.out)
  go_wp2_with fail
  refine (Hib.out _).mono ?_
  rintro e w2 ⟨rfl, rfl⟩
  rw [show ixl 92 = -1 from rfl]
  go_wp2_with fail
  refine (wb_any B b l 92 _ H2.out.bw (by decide) (by omega) H2.out.B).mono ?_
  rintro e w4 ⟨rfl, hb4, hc4, _⟩
  have H4 := Lib.hid (H2.out.wr hb4 hc4 Hdb.out)
  clear hb4 hc4
  go_wp2_with fail
  go_end0
  exact ⟨rfl, H4.out⟩
set_option maxRecDepth 100000 in
set_option maxHeartbeats 8000000 in
theorem esc_b (B b db : Nat) (s : ByteArray) (o : Nat) (l : List UInt8) (w0 w : World) (r : List UInt8) (h : TS B b db s o l w0 w) (hdb : db < B) (hs : s.size ≤ 100000) (hl : l.length ≤ 100000) (hr : s.data.toList.drop o = 98 :: r) :
    Calls Tryd.prog 52 #[.pointer (some ⟨db, 0, none⟩), .pointer (some ⟨b, 0, none⟩)] w (EscPost B b db s (o + 1) (l ++ [8]) w0) := by
  have He := Lib.hid (fun W => expect_any db true W)
  have Hpk := Lib.hid (peek_any db s o w h.ds hs)
  have H := Lib.hid h
  have Hib := Lib.hid (fun W => ib_any 98 (by decide) W)
  obtain ⟨hp1, hp2, hp3⟩ := peek_cons hr
  rw [hp1] at Hpk
  have Hdb := Lib.hid hdb
  have hol : (o : Int) < s.size := by omega
  have Hr := Lib.hid hp3
  clear h hr hp1 hp3
  go_enter Tryd.func52, Tryd.ntmps52
  go_wp2_with fail
  refine Hpk.out.mono ?_
  rintro e w1 ⟨rfl, hc1⟩
  have H1 := Lib.hid (H.out.new hc1)
  have c0 := H1.out.ds.c0
  have c1 := H1.out.ds.c1
  have f1 := H1.out.ds.fz 1
  have lb := lt_of_cell c0
  clear hc1
  have H2 : Hid (TS B b db s (o + 1) l w0 (w1.setCell ⟨db, 1, none⟩ (.int .i64 ((o : Int) + 1)))) := Lib.hid (H1.out.db (set_chg _ _ _) (H1.out.ds.setI (by omega)) Hdb.out)
  go_wp2_with fail
  refine (Hib.out _).mono ?_
  rintro e w2 ⟨rfl, rfl⟩
  rw [show ixl 98 = 0 from rfl]
  go_wp2_with fail
  refine (He.out _).mono ?_
  rintro e w3 ⟨rfl, rfl⟩
  go_wp2_with fail
  refine (wb_any B b l 8 _ H2.out.bw (by decide) (by omega) H2.out.B).mono ?_
  rintro e w4 ⟨rfl, hb4, hc4, _⟩
  have H4 := Lib.hid (H2.out.wr hb4 hc4 Hdb.out)
  clear hb4 hc4
  go_wp2_with fail
  go_end0
  exact ⟨rfl, H4.out⟩
set_option maxRecDepth 100000 in
set_option maxHeartbeats 8000000 in
theorem esc_t (B b db : Nat) (s : ByteArray) (o : Nat) (l : List UInt8) (w0 w : World) (r : List UInt8) (h : TS B b db s o l w0 w) (hdb : db < B) (hs : s.size ≤ 100000) (hl : l.length ≤ 100000) (hr : s.data.toList.drop o = 116 :: r) :
    Calls Tryd.prog 52 #[.pointer (some ⟨db, 0, none⟩), .pointer (some ⟨b, 0, none⟩)] w (EscPost B b db s (o + 1) (l ++ [9]) w0) := by
  have He := Lib.hid (fun W => expect_any db true W)
  have Hpk := Lib.hid (peek_any db s o w h.ds hs)
  have H := Lib.hid h
  have Hib := Lib.hid (fun W => ib_any 116 (by decide) W)
  obtain ⟨hp1, hp2, hp3⟩ := peek_cons hr
  rw [hp1] at Hpk
  have Hdb := Lib.hid hdb
  have hol : (o : Int) < s.size := by omega
  have Hr := Lib.hid hp3
  clear h hr hp1 hp3
  go_enter Tryd.func52, Tryd.ntmps52
  go_wp2_with fail
  refine Hpk.out.mono ?_
  rintro e w1 ⟨rfl, hc1⟩
  have H1 := Lib.hid (H.out.new hc1)
  have c0 := H1.out.ds.c0
  have c1 := H1.out.ds.c1
  have f1 := H1.out.ds.fz 1
  have lb := lt_of_cell c0
  clear hc1
  have H2 : Hid (TS B b db s (o + 1) l w0 (w1.setCell ⟨db, 1, none⟩ (.int .i64 ((o : Int) + 1)))) := Lib.hid (H1.out.db (set_chg _ _ _) (H1.out.ds.setI (by omega)) Hdb.out)
  go_wp2_with fail
  refine (Hib.out _).mono ?_
  rintro e w2 ⟨rfl, rfl⟩
  rw [show ixl 116 = 1 from rfl]
  go_wp2_with fail
  refine (He.out _).mono ?_
  rintro e w3 ⟨rfl, rfl⟩
  go_wp2_with fail
  refine (wb_any B b l 9 _ H2.out.bw (by decide) (by omega) H2.out.B).mono ?_
  rintro e w4 ⟨rfl, hb4, hc4, _⟩
  have H4 := Lib.hid (H2.out.wr hb4 hc4 Hdb.out)
  clear hb4 hc4
  go_wp2_with fail
  go_end0
  exact ⟨rfl, H4.out⟩
set_option maxRecDepth 100000 in
set_option maxHeartbeats 8000000 in
theorem esc_n (B b db : Nat) (s : ByteArray) (o : Nat) (l : List UInt8) (w0 w : World) (r : List UInt8) (h : TS B b db s o l w0 w) (hdb : db < B) (hs : s.size ≤ 100000) (hl : l.length ≤ 100000) (hr : s.data.toList.drop o = 110 :: r) :
    Calls Tryd.prog 52 #[.pointer (some ⟨db, 0, none⟩), .pointer (some ⟨b, 0, none⟩)] w (EscPost B b db s (o + 1) (l ++ [10]) w0) := by
  have He := Lib.hid (fun W => expect_any db true W)
  have Hpk := Lib.hid (peek_any db s o w h.ds hs)
  have H := Lib.hid h
  have Hib := Lib.hid (fun W => ib_any 110 (by decide) W)
  obtain ⟨hp1, hp2, hp3⟩ := peek_cons hr
  rw [hp1] at Hpk
  have Hdb := Lib.hid hdb
  have hol : (o : Int) < s.size := by omega
  have Hr := Lib.hid hp3
  clear h hr hp1 hp3
  go_enter Tryd.func52, Tryd.ntmps52
  go_wp2_with fail
  refine Hpk.out.mono ?_
  rintro e w1 ⟨rfl, hc1⟩
  have H1 := Lib.hid (H.out.new hc1)
  have c0 := H1.out.ds.c0
  have c1 := H1.out.ds.c1
  have f1 := H1.out.ds.fz 1
  have lb := lt_of_cell c0
  clear hc1
  have H2 : Hid (TS B b db s (o + 1) l w0 (w1.setCell ⟨db, 1, none⟩ (.int .i64 ((o : Int) + 1)))) := Lib.hid (H1.out.db (set_chg _ _ _) (H1.out.ds.setI (by omega)) Hdb.out)
  go_wp2_with fail
  refine (Hib.out _).mono ?_
  rintro e w2 ⟨rfl, rfl⟩
  rw [show ixl 110 = 2 from rfl]
  go_wp2_with fail
  refine (He.out _).mono ?_
  rintro e w3 ⟨rfl, rfl⟩
  go_wp2_with fail
  refine (wb_any B b l 10 _ H2.out.bw (by decide) (by omega) H2.out.B).mono ?_
  rintro e w4 ⟨rfl, hb4, hc4, _⟩
  have H4 := Lib.hid (H2.out.wr hb4 hc4 Hdb.out)
  clear hb4 hc4
  go_wp2_with fail
  go_end0
  exact ⟨rfl, H4.out⟩
set_option maxRecDepth 100000 in
set_option maxHeartbeats 8000000 in
theorem esc_f (B b db : Nat) (s : ByteArray) (o : Nat) (l : List UInt8) (w0 w : World) (r : List UInt8) (h : TS B b db s o l w0 w) (hdb : db < B) (hs : s.size ≤ 100000) (hl : l.length ≤ 100000) (hr : s.data.toList.drop o = 102 :: r) :
    Calls Tryd.prog 52 #[.pointer (some ⟨db, 0, none⟩), .pointer (some ⟨b, 0, none⟩)] w (EscPost B b db s (o + 1) (l ++ [12]) w0) := by
  have He := Lib.hid (fun W => expect_any db true W)
  have Hpk := Lib.hid (peek_any db s o w h.ds hs)
  have H := Lib.hid h
  have Hib := Lib.hid (fun W => ib_any 102 (by decide) W)
  obtain ⟨hp1, hp2, hp3⟩ := peek_cons hr
  rw [hp1] at Hpk
  have Hdb := Lib.hid hdb
  have hol : (o : Int) < s.size := by omega
  have Hr := Lib.hid hp3
  clear h hr hp1 hp3
  go_enter Tryd.func52, Tryd.ntmps52
  go_wp2_with fail
  refine Hpk.out.mono ?_
  rintro e w1 ⟨rfl, hc1⟩
  have H1 := Lib.hid (H.out.new hc1)
  have c0 := H1.out.ds.c0
  have c1 := H1.out.ds.c1
  have f1 := H1.out.ds.fz 1
  have lb := lt_of_cell c0
  clear hc1
  have H2 : Hid (TS B b db s (o + 1) l w0 (w1.setCell ⟨db, 1, none⟩ (.int .i64 ((o : Int) + 1)))) := Lib.hid (H1.out.db (set_chg _ _ _) (H1.out.ds.setI (by omega)) Hdb.out)
  go_wp2_with fail
  refine (Hib.out _).mono ?_
  rintro e w2 ⟨rfl, rfl⟩
  rw [show ixl 102 = 3 from rfl]
  go_wp2_with fail
  refine (He.out _).mono ?_
  rintro e w3 ⟨rfl, rfl⟩
  go_wp2_with fail
  refine (wb_any B b l 12 _ H2.out.bw (by decide) (by omega) H2.out.B).mono ?_
  rintro e w4 ⟨rfl, hb4, hc4, _⟩
  have H4 := Lib.hid (H2.out.wr hb4 hc4 Hdb.out)
  clear hb4 hc4
  go_wp2_with fail
  go_end0
  exact ⟨rfl, H4.out⟩
set_option maxRecDepth 100000 in
set_option maxHeartbeats 8000000 in
theorem esc_r (B b db : Nat) (s : ByteArray) (o : Nat) (l : List UInt8) (w0 w : World) (r : List UInt8) (h : TS B b db s o l w0 w) (hdb : db < B) (hs : s.size ≤ 100000) (hl : l.length ≤ 100000) (hr : s.data.toList.drop o = 114 :: r) :
    Calls Tryd.prog 52 #[.pointer (some ⟨db, 0, none⟩), .pointer (some ⟨b, 0, none⟩)] w (EscPost B b db s (o + 1) (l ++ [13]) w0) := by
  have He := Lib.hid (fun W => expect_any db true W)
  have Hpk := Lib.hid (peek_any db s o w h.ds hs)
  have H := Lib.hid h
  have Hib := Lib.hid (fun W => ib_any 114 (by decide) W)
  obtain ⟨hp1, hp2, hp3⟩ := peek_cons hr
  rw [hp1] at Hpk
  have Hdb := Lib.hid hdb
  have hol : (o : Int) < s.size := by omega
  have Hr := Lib.hid hp3
  clear h hr hp1 hp3
  go_enter Tryd.func52, Tryd.ntmps52
  go_wp2_with fail
  refine Hpk.out.mono ?_
  rintro e w1 ⟨rfl, hc1⟩
  have H1 := Lib.hid (H.out.new hc1)
  have c0 := H1.out.ds.c0
  have c1 := H1.out.ds.c1
  have f1 := H1.out.ds.fz 1
  have lb := lt_of_cell c0
  clear hc1
  have H2 : Hid (TS B b db s (o + 1) l w0 (w1.setCell ⟨db, 1, none⟩ (.int .i64 ((o : Int) + 1)))) := Lib.hid (H1.out.db (set_chg _ _ _) (H1.out.ds.setI (by omega)) Hdb.out)
  go_wp2_with fail
  refine (Hib.out _).mono ?_
  rintro e w2 ⟨rfl, rfl⟩
  rw [show ixl 114 = 4 from rfl]
  go_wp2_with fail
  refine (He.out _).mono ?_
  rintro e w3 ⟨rfl, rfl⟩
  go_wp2_with fail
  refine (wb_any B b l 13 _ H2.out.bw (by decide) (by omega) H2.out.B).mono ?_
  rintro e w4 ⟨rfl, hb4, hc4, _⟩
  have H4 := Lib.hid (H2.out.wr hb4 hc4 Hdb.out)
  clear hb4 hc4
  go_wp2_with fail
  go_end0
  exact ⟨rfl, H4.out⟩
set_option maxRecDepth 100000 in
set_option maxHeartbeats 8000000 in
theorem esc_u (B b db : Nat) (s : ByteArray) (o n : Nat) (l : List UInt8) (w0 w : World) (r : List UInt8) (h : TS B b db s o l w0 w) (hdb : db < B) (hs : s.size ≤ 100000) (hl : l.length ≤ 100000) (hr : s.data.toList.drop o = 117 :: r) (hr4 : 4 ≤ r.length) (hn : hexF 0 (r.take 4) = some n) (hn2 : n < 128) :
    Calls Tryd.prog 52 #[.pointer (some ⟨db, 0, none⟩), .pointer (some ⟨b, 0, none⟩)] w (EscPost B b db s (o + 5) (l ++ [n.toUInt8]) w0) := by
  have Hpk := Lib.hid (peek_any db s o w h.ds hs)
  have H := Lib.hid h
  have Hib := Lib.hid (fun W => ib_any 117 (by decide) W)
  obtain ⟨hp1, hp2, hp3⟩ := peek_cons hr
  rw [hp1] at Hpk
  have Hdb := Lib.hid hdb
  have hol : (o : Int) < s.size := by omega
  have Hr := Lib.hid hp3
  clear h hr hp1 hp3
  go_enter Tryd.func52, Tryd.ntmps52
  go_wp2_with fail
  refine Hpk.out.mono ?_
  rintro e w1 ⟨rfl, hc1⟩
  have H1 := Lib.hid (H.out.new hc1)
  have c0 := H1.out.ds.c0
  have c1 := H1.out.ds.c1
  have f1 := H1.out.ds.fz 1
  have lb := lt_of_cell c0
  clear hc1
  have H2 : Hid (TS B b db s (o + 1) l w0 (w1.setCell ⟨db, 1, none⟩ (.int .i64 ((o : Int) + 1)))) := Lib.hid (H1.out.db (set_chg _ _ _) (H1.out.ds.setI (by omega)) Hdb.out)
  go_wp2_with fail
  refine (Hib.out _).mono ?_
  rintro e w2 ⟨rfl, rfl⟩
  rw [show ixl 117 = -1 from rfl]
  have ho5 : o + 1 + 4 ≤ s.size := by
    have h1 := Hr.out
    have h2 := congrArg List.length h1
    rw [List.length_drop] at h2
    have hl : s.data.toList.length = s.size := rfl
    omega
  go_wp2_with fail
  refine (unesc_yes db s (o + 1) n _ H2.out.ds ho5 hs (by rw [Hr.out]; exact hn) (by omega)).mono ?_
  rintro e w3 ⟨rfl, hd3, hc3⟩
  have H3 := Lib.hid (H2.out.db hc3 hd3 Hdb.out)
  clear hd3 hc3
  go_wp2_with fail
  refine (wrune_any B b l n _ H3.out.bw hn2 (by omega) H3.out.B).mono ?_
  rintro e w4 ⟨⟨v4, rfl⟩, hb4, hc4, _⟩
  have H4 := Lib.hid (H3.out.wr hb4 hc4 Hdb.out)
  clear hb4 hc4
  go_wp2_with fail
  go_end0
  exact ⟨rfl, H4.out⟩
/-- the bytes behind a backslash, of a byte that is written so -/
theorem esc_yes (B b db : Nat) (s : ByteArray) (o a : Nat) (l : List UInt8) (w0 w : World) (r : List UInt8) (h : TS B b db s o l w0 w) (hdb : db < B) (hs : s.size ≤ 100000) (hl : l.length ≤ 100000) (ha : a = 34 ∨ a = 92 ∨ a < 32) (hr : s.data.toList.drop o = escT a ++ r) :
    Calls Tryd.prog 52 #[.pointer (some ⟨db, 0, none⟩), .pointer (some ⟨b, 0, none⟩)] w (EscPost B b db s (o + (escT a).length) (l ++ [a.toUInt8]) w0) := by
  by_cases h34 : a = 34
  · subst h34; exact esc_quote B b db s o l w0 w r h hdb hs hl hr
  by_cases h92 : a = 92
  · subst h92; exact esc_back B b db s o l w0 w r h hdb hs hl hr
  by_cases h8 : a = 8
  · subst h8; exact esc_b B b db s o l w0 w r h hdb hs hl hr
  by_cases h9 : a = 9
  · subst h9; exact esc_t B b db s o l w0 w r h hdb hs hl hr
  by_cases h10 : a = 10
  · subst h10; exact esc_n B b db s o l w0 w r h hdb hs hl hr
  by_cases h12 : a = 12
  · subst h12; exact esc_f B b db s o l w0 w r h hdb hs hl hr
  by_cases h13 : a = 13
  · subst h13; exact esc_r B b db s o l w0 w r h hdb hs hl hr
  have h32 : a < 32 := by omega
  have e1 : escT a = [117, 48, 48, hx (a / 16), hx (a % 16)] := by
    unfold escT escN
    rw [if_neg h34, if_neg h92, if_neg h8, if_neg h9, if_neg h10, if_neg h12, if_neg h13, if_pos h32]
    rfl
  rw [e1] at hr ⊢
  exact esc_u B b db s o a l w0 w ([48, 48, hx (a / 16), hx (a % 16)] ++ r) h hdb hs hl hr (by simp) (by simpa using hexF_ctl a h32) (by omega)
end Go.Proofs.YtpnaegfldkjikaaDoor.Jv
