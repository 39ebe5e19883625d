/- JSON texts, any text: escape. -/
import Derived.Test.YtpnaegfldkjikaaDoorJyC
namespace Go.Proofs.YtpnaegfldkjikaaDoor.Jv
open Go.RowKit Go.ChangeMaps Go.MapKept
set_option linter.unusedVariables false
set_option linter.unusedSimpArgs false
theorem TS.de {B b db : Nat} {s : ByteArray} {o : Nat} {l : List UInt8} {w0 w : World} (h : TS B b db s o l w0 w) (hE : DE db w0) (hdb : db < B) : DE db w :=
  hE.kept h.chg (fun k hk => by
    rcases hk with hk | hk
    · omega
    · have := hk.1
      omega)
theorem wrune_all (B b : Nat) (l : List UInt8) (r : Int) (w : World) (h : BW B b l w) (hr0 : -2147483648 ≤ r) (hr1 : r ≤ 2147483647) (hlen : l.length + 4 ≤ 140737488355328) (hBw : B ≤ w.heap.size) :
    Calls Tryd.prog 60 #[.pointer (some ⟨b, 0, none⟩), .int .i32 r] w fun e w' => (∃ v, e = .returned v) ∧ BW B b (l ++ Lib.encodeRune r) w' ∧ ChgP (bldSet B b w) w w' ∧ w.heap.size ≤ w'.heap.size :=
  (writeRune_any B b _ r w h hr0 hr1 (by rw [cells_len]; exact hlen) hBw).mono fun e w' ⟨h1, h2, h3⟩ => ⟨h1, by
    unfold BW
    rw [cells_app, ← rune_cells]
    exact h2, h3, h3.size⟩
/-- what escape does, on any text -/
def EscA (B b db : Nat) (s : ByteArray) (o : Nat) (l : List UInt8) (w0 : World) (e : Ending) (w' : World) : Prop :=
  (e = .panicked sx ∧ ChgP (EB B b db w0) w0 w') ∨ ∃ (l' : List UInt8) (q : Nat), e = .returned (.tuple #[]) ∧ TS B b db s q (l ++ l') w0 w' ∧ o < q ∧ q ≤ s.size ∧ (escL l').length ≤ q - o + 1
theorem EscA.of {B b db : Nat} {s : ByteArray} {o : Nat} {l l' : List UInt8} {w0 : World} {e : Ending} {w' : World} (h : EscPost B b db s (o + 1) (l ++ l') w0 e w') (ho : o < s.size) (hl : (escL l').length ≤ 2) : EscA B b db s o l w0 e w' :=
  Or.inr ⟨l', o + 1, h.1, h.2, by omega, ho, by omega⟩
set_option maxRecDepth 100000 in
set_option maxHeartbeats 8000000 in
theorem esc_slash (B b db : Nat) (s : ByteArray) (o : Nat) (l : List UInt8) (w0 w : World) (r : List UInt8) (h : TS B b db s o l w0 w) (hdb : db < B) (hs : s.size ≤ 100000) (hl : l.length ≤ 100000) (hr : s.data.toList.drop o = 47 :: r) :
    Calls Tryd.prog 52 #[.pointer (some ⟨db, 0, none⟩), .pointer (some ⟨b, 0, none⟩)] w (EscPost B b db s (o + 1) (l ++ [47]) w0) := by
  have He := Lib.hid (fun W => expect_any db true W)
  have Hpk := Lib.hid (peek_any db s o w h.ds hs)
  have H := Lib.hid h
  have Hib := Lib.hid (fun W => ib_any 47 (by decide) W)
  obtain ⟨hp1, hp2, hp3⟩ := peek_cons hr
  rw [hp1] at Hpk
  have Hdb := Lib.hid hdb
  have hol : (o : Int) < s.size := by omega
  have Hr := Lib.hid hp3
  clear h hr hp1 hp3
  go_enter Tryd.func52, Tryd.ntmps52
  go_wp2_with fail
  refine Hpk.out.mono ?_
  rintro e w1 ⟨rfl, hc1⟩
  have H1 := Lib.hid (H.out.new hc1)
  have c0 := H1.out.ds.c0
  have c1 := H1.out.ds.c1
  have f1 := H1.out.ds.fz 1
  have lb := lt_of_cell c0
  clear hc1
  have H2 : Hid (TS B b db s (o + 1) l w0 (w1.setCell ⟨db, 1, none⟩ (.int .i64 ((o : Int) + 1)))) := Lib.hid (H1.out.db (set_chg _ _ _) (H1.out.ds.setI (by omega)) Hdb.out)
  go_wp2_with fail
  refine (Hib.out _).mono ?_
  rintro e w2 ⟨rfl, rfl⟩
  rw [show ixl 47 = -1 from rfl]
  go_wp2_with fail
  refine (wb_any B b l 47 _ H2.out.bw (by decide) (by omega) H2.out.B).mono ?_
  rintro e w4 ⟨rfl, hb4, hc4, _⟩
  have H4 := Lib.hid (H2.out.wr hb4 hc4 Hdb.out)
  clear hb4 hc4
  go_wp2_with fail
  go_end0
  exact ⟨rfl, H4.out⟩
set_option maxRecDepth 100000 in
set_option maxHeartbeats 8000000 in
theorem esc_bad (B b db : Nat) (s : ByteArray) (o x : Nat) (l : List UInt8) (w0 w : World) (h : TS B b db s o l w0 w) (hdb : db < B) (hs : s.size ≤ 100000) (ho : o ≤ s.size) (hx : peekL (s.data.toList.drop o) = x) (hx256 : x < 256) (h34 : x ≠ 34) (h92 : x ≠ 92) (h47 : x ≠ 47) (h117 : x ≠ 117) (hix : ixl x = -1) :
    Calls Tryd.prog 52 #[.pointer (some ⟨db, 0, none⟩), .pointer (some ⟨b, 0, none⟩)] w (EscA B b db s o l w0) := by
  have He := Lib.hid (fun W => expect_any db false W)
  have Hpk := Lib.hid (peek_any db s o w h.ds hs)
  rw [hx] at Hpk
  have H := Lib.hid h
  have Hib := Lib.hid (fun W => ib_any x hx256 W)
  rw [hix] at Hib
  have Hdb := Lib.hid hdb
  have hol : (o : Int) ≤ s.size := by omega
  have e34 : ((x : Int) == 34) = false := by simp; omega
  have e92 : ((x : Int) == 92) = false := by simp; omega
  have e47 : ((x : Int) == 47) = false := by simp; omega
  have e117 : ((x : Int) == 117) = false := by simp; omega
  have n34 : (x == 34) = false := by simp; omega
  have n92 : (x == 92) = false := by simp; omega
  have n47 : (x == 47) = false := by simp; omega
  have n117 : (x == 117) = false := by simp; omega
  clear h hix hx
  go_enter Tryd.func52, Tryd.ntmps52
  go_wp2_with fail
  refine Hpk.out.mono ?_
  rintro e w1 ⟨rfl, hc1⟩
  have H1 := Lib.hid (H.out.new hc1)
  have c0 := H1.out.ds.c0
  have c1 := H1.out.ds.c1
  have f1 := H1.out.ds.fz 1
  have lb := lt_of_cell c0
  clear hc1
  have H2 : Hid (TS B b db s (o + 1) l w0 (w1.setCell ⟨db, 1, none⟩ (.int .i64 ((o : Int) + 1)))) := Lib.hid (H1.out.db (set_chg _ _ _) (H1.out.ds.setI (by omega)) Hdb.out)
  go_wp2_with fail
  refine (Hib.out _).mono ?_
  rintro e w2 ⟨rfl, rfl⟩
  go_wp2_with fail
  refine (He.out _).mono ?_
  rintro e w3 ⟨rfl, rfl⟩
  go_wp2_with fail
  exact ⟨rfl, Or.inl ⟨rfl, H2.out.chg⟩⟩
set_option maxRecDepth 100000 in
set_option maxHeartbeats 8000000 in
theorem esc_ua (B b db : Nat) (s : ByteArray) (o : Nat) (l : List UInt8) (w0 w : World) (r : List UInt8) (h : TS B b db s o l w0 w) (hdb : db < B) (hs : s.size ≤ 100000) (hl : l.length ≤ 100000) (hr : s.data.toList.drop o = 117 :: r) (hE : DE db w0) :
    Calls Tryd.prog 52 #[.pointer (some ⟨db, 0, none⟩), .pointer (some ⟨b, 0, none⟩)] w (EscA B b db s o l w0) := by
  have HE := Lib.hid hE
  clear hE
  have Hpk := Lib.hid (peek_any db s o w h.ds hs)
  have H := Lib.hid h
  have Hib := Lib.hid (fun W => ib_any 117 (by decide) W)
  obtain ⟨hp1, hp2, hp3⟩ := peek_cons hr
  rw [hp1] at Hpk
  have Hdb := Lib.hid hdb
  have hol : (o : Int) < s.size := by omega
  have Hr := Lib.hid hp3
  clear h hr hp1 hp3
  go_enter Tryd.func52, Tryd.ntmps52
  go_wp2_with fail
  refine Hpk.out.mono ?_
  rintro e w1 ⟨rfl, hc1⟩
  have H1 := Lib.hid (H.out.new hc1)
  have c0 := H1.out.ds.c0
  have c1 := H1.out.ds.c1
  have f1 := H1.out.ds.fz 1
  have lb := lt_of_cell c0
  clear hc1
  have H2 : Hid (TS B b db s (o + 1) l w0 (w1.setCell ⟨db, 1, none⟩ (.int .i64 ((o : Int) + 1)))) := Lib.hid (H1.out.db (set_chg _ _ _) (H1.out.ds.setI (by omega)) Hdb.out)
  go_wp2_with fail
  refine (Hib.out _).mono ?_
  rintro e w2 ⟨rfl, rfl⟩
  rw [show ixl 117 = -1 from rfl]
  have ho5 : o + 1 ≤ s.size := by omega
  go_wp2_with fail
  refine (unesc_any db s (o + 1) _ H2.out.ds ho5 hs (H2.out.de HE.out Hdb.out)).mono ?_
  rintro e w3 (⟨rfl, hc3⟩ | ⟨n, q, hn0, hn1, rfl, hq4, hqs, hd3, hc3⟩)
  · have Hc := Lib.hid (eb_trans H2.out.chg (eb_db hc3))
    clear hc3
    go_wp2_with fail
    exact ⟨rfl, Or.inl ⟨rfl, Hc.out⟩⟩
  have H3 := Lib.hid (H2.out.db hc3 hd3 Hdb.out)
  have Hq := Lib.hid (And.intro hq4 hqs)
  clear hd3 hc3 hq4 hqs
  go_wp2_with fail
  refine (wrune_all B b l n _ H3.out.bw hn0 hn1 (by omega) H3.out.B).mono ?_
  rintro e w4 ⟨⟨v4, rfl⟩, hb4, hc4, _⟩
  have H4 := Lib.hid (H3.out.wr hb4 hc4 Hdb.out)
  clear hb4 hc4
  go_wp2_with fail
  go_end0
  exact Or.inr ⟨_, q, rfl, H4.out, by have := Hq.out.1; omega, Hq.out.2, by have h1 := (rune_esc n).1; have h2 := Hq.out.1; omega⟩
/-- escape, on any text -/
theorem esc_any (B b db : Nat) (s : ByteArray) (o : Nat) (l : List UInt8) (w0 w : World) (h : TS B b db s o l w0 w) (hdb : db < B) (hs : s.size ≤ 100000) (hl : l.length ≤ 100000) (ho : o ≤ s.size) (hE : DE db w0) :
    Calls Tryd.prog 52 #[.pointer (some ⟨db, 0, none⟩), .pointer (some ⟨b, 0, none⟩)] w (EscA B b db s o l w0) := by
  by_cases hlt : o < s.size
  · have hll : o < s.data.toList.length := hlt
    have hdr := List.drop_eq_getElem_cons hll
    generalize s.data.toList.drop (o + 1) = r at hdr
    generalize s.data.toList[o] = c at hdr
    have hcu : c = c.toNat.toUInt8 := by simp [Nat.toUInt8]
    have hc256 := c.toNat_lt
    by_cases h34 : c.toNat = 34
    · have : c = 34 := by rw [hcu, h34]; rfl
      subst this
      exact (esc_quote B b db s o l w0 w r h hdb hs hl hdr).mono fun e w' h => EscA.of h hlt (by decide)
    by_cases h92 : c.toNat = 92
    · have : c = 92 := by rw [hcu, h92]; rfl
      subst this
      exact (esc_back B b db s o l w0 w r h hdb hs hl hdr).mono fun e w' h => EscA.of h hlt (by decide)
    by_cases h47 : c.toNat = 47
    · have : c = 47 := by rw [hcu, h47]; rfl
      subst this
      exact (esc_slash B b db s o l w0 w r h hdb hs hl hdr).mono fun e w' h => EscA.of h hlt (by decide)
    by_cases h117 : c.toNat = 117
    · have : c = 117 := by rw [hcu, h117]; rfl
      subst this
      exact esc_ua B b db s o l w0 w r h hdb hs hl hdr hE
    by_cases h98 : c.toNat = 98
    · have : c = 98 := by rw [hcu, h98]; rfl
      subst this
      exact (esc_b B b db s o l w0 w r h hdb hs hl hdr).mono fun e w' h => EscA.of h hlt (by decide)
    by_cases h116 : c.toNat = 116
    · have : c = 116 := by rw [hcu, h116]; rfl
      subst this
      exact (esc_t B b db s o l w0 w r h hdb hs hl hdr).mono fun e w' h => EscA.of h hlt (by decide)
    by_cases h110 : c.toNat = 110
    · have : c = 110 := by rw [hcu, h110]; rfl
      subst this
      exact (esc_n B b db s o l w0 w r h hdb hs hl hdr).mono fun e w' h => EscA.of h hlt (by decide)
    by_cases h102 : c.toNat = 102
    · have : c = 102 := by rw [hcu, h102]; rfl
      subst this
      exact (esc_f B b db s o l w0 w r h hdb hs hl hdr).mono fun e w' h => EscA.of h hlt (by decide)
    by_cases h114 : c.toNat = 114
    · have : c = 114 := by rw [hcu, h114]; rfl
      subst this
      exact (esc_r B b db s o l w0 w r h hdb hs hl hdr).mono fun e w' h => EscA.of h hlt (by decide)
    exact esc_bad B b db s o c.toNat l w0 w h hdb hs ho (by rw [hdr]; rfl) hc256 h34 h92 h47 h117 (by unfold ixl; rw [if_neg h98, if_neg h116, if_neg h110, if_neg h102, if_neg h114])
  · exact esc_bad B b db s o 0 l w0 w h hdb hs ho (peek_end hlt) (by decide) (by decide) (by decide) (by decide) (by decide) rfl
end Go.Proofs.YtpnaegfldkjikaaDoor.Jv
