/- Part of the proof of topCrashedLaw_holds. -/
import Derived.Recover
import Derived.Test.YtjlknaahpjiibaaGreatDoorQbo
namespace Go.Proofs.YtjlknaahpjiibaaGreatDoor.Jv
open List (getElem_toArray getElem_cons_zero getElem_cons_succ setIfInBounds_toArray set_cons_zero set_cons_succ)
open Go.RowKit Go.ChangeMaps Go.MapKept
set_option linter.unusedVariables false
set_option linter.unusedSimpArgs false
theorem assert_syn (w : World) (v : Value) : (Instr.typeAssert (.iface 146 v) 20 146 true).run Tryz.prog w = .ok (.tuple #[v, .bool true]) w := by
 simp [Instr.typeAssert, run_underlying Tryz.underlying146]
set_option maxRecDepth 100000 in
set_option maxHeartbeats 2000000 in
theorem dec1_idle (w : World) (a b : Value) : CallsD Tryz.prog 81 #[a, b] .returning w fun e u' w' => e = .returned (.tuple #[]) ∧ u' = .returning ∧ w' = w := by
 refine callsD_of_wpS Tryz.func81 rfl fun c₀ cs hu => ?_
 apply wpS_seq
 apply wpS_region
 simp [wpOpsS, go_sem, Tryz.ntmps81, Exit.thenS, recoverD, hu]
 refine wpS_of_wp ?_
 simp only [Array.replicate, List.replicate, setIfInBounds_toArray, set_cons_zero, set_cons_succ, List.append_toArray, List.cons_append, List.nil_append]
 go_wp2_with fail
 show bodyPostS Tryz.prog Tryz.f81 c₀ cs _ _ _ _ _
 exact ⟨rfl, .returning, by rw [← hu], .tuple #[], results_none rfl _ _ _, rfl, rfl, rfl⟩
set_option maxRecDepth 100000 in
set_option maxHeartbeats 2000000 in
theorem dec1_panic (w : World) (b : Nat) (e0 : Ev) (x : Int) (hb : w.heap[b]? = some (.cells #[.int .i64 e0.k, .int .i64 e0.n, .string e0.t, .slice e0.na e0.nl e0.nc, .slice e0.ia e0.il e0.ic] 59 (0, 0))) (he : w.heap[b + 1]? = some (.cells #[.int .i64 x] 30 (0, 0))) :
 CallsD Tryz.prog 81 #[.pointer (some ⟨b, 0, none⟩), .pointer (some ⟨b + 1, 0, none⟩)] (.panicking sx) w fun e u' w' =>
  e = .returned (.tuple #[]) ∧ u' = .panicking [{ v := .iface 146 (.agg #[]), recovered := true }] ∧ w'.heap[b]? = some (.cells #[.int .i64 0, .int .i64 0, .string ⟨#[]⟩, .slice none 0 0, .slice none 0 0] 59 (0, 0)) ∧ w'.heap[b + 1]? = some (.cells #[.int .i64 4] 30 (0, 0)) ∧ Chg [b, b + 1] w w' := by
 obtain ⟨r0, r1, r2, r3, r4⟩ := box_kept b hb (Chg.refl [] w)
 have fr := fun i => frozen_of_heap (i := i) hb
 have fe := fun i => frozen_of_heap (i := i) he
 have ev := cell_of_heap he (i := 0) rfl
 have lb := lt_of_obj hb
 have le := lt_of_obj he
 have Hb := Lib.hid hb
 have He := Lib.hid he
 have hta := assert_syn
 clear hb he
 refine callsD_of_wpS Tryz.func81 rfl fun c₀ cs hu => ?_
 apply wpS_seq
 apply wpS_region
 simp [wpOpsS, go_sem, Tryz.ntmps81, Exit.thenS, recoverD, hu, sx]
 refine wpS_of_wp ?_
 simp only [Array.replicate, List.replicate, setIfInBounds_toArray, set_cons_zero, set_cons_succ, List.append_toArray, List.cons_append, List.nil_append]
 go_wp2_with fail
 show bodyPostS Tryz.prog Tryz.f81 c₀ cs _ _ _ _ _
 have hzb : (((((w.setCell ⟨b, 0, none⟩ (.int .i64 0)).setCell ⟨b, 1, none⟩ (.int .i64 0)).setCell ⟨b, 2, none⟩ (.string ⟨#[]⟩)).setCell ⟨b, 3, none⟩ (.slice none 0 0)).setCell ⟨b, 4, none⟩ (.slice none 0 0)) = st5 w b 0 ⟨0, 0, ⟨#[]⟩, none, 0, 0, none, 0, 0⟩ := rfl
 rw [hzb]
 have hcs := st5_chg w b 0 ⟨0, 0, ⟨#[]⟩, none, 0, 0, none, 0, 0⟩
 have h5 : (st5 w b 0 ⟨0, 0, ⟨#[]⟩, none, 0, 0, none, 0, 0⟩).heap[b]? = some (.cells #[.int .i64 0, .int .i64 0, .string ⟨#[]⟩, .slice none 0 0, .slice none 0 0] 59 (0, 0)) := by
  unfold st5
  exact heap_setCell_same (heap_setCell_same (heap_setCell_same (heap_setCell_same (heap_setCell_same Hb.out _) _) _) _) _
 have h6 := (hcs.block (b + 1) (lt_of_obj He.out) (by simp)).trans He.out
 have h7 := heap_setCell_same (i := 0) h6 (.int .i64 4)
 have h8 := (heap_setCell_ne (st5 w b 0 ⟨0, 0, ⟨#[]⟩, none, 0, 0, none, 0, 0⟩) ⟨b + 1, 0, none⟩ (.int .i64 4) b (by simp)).trans h5
 refine ⟨rfl, _, rfl, .tuple #[], results_none rfl _ _ _, rfl, rfl, ?_, ?_, ?_⟩
 · exact (heap_past _ _ _ (lt_of_obj h8)).trans h8
 · exact (heap_past _ _ _ (lt_of_obj h7)).trans h7
 · exact ((hcs.mono (by simp)).setCell (p := ⟨b + 1, 0, none⟩) (Or.inl (by simp)) _).alloc _
structure DB (db b f o : Nat) (s : ByteArray) (e : Ev) (w wr : World) : Prop where
 ds : DS wr db s o
 res : wr.heap[b]? = some (.cells #[.int .i64 e.k, .int .i64 e.n, .string e.t, .slice e.na e.nl e.nc, .slice e.ia e.il e.ic] 59 (0, 0))
 err : wr.heap[b + 1]? = some (.cells #[.int .i64 0] 30 (0, 0))
 chg : Chg [] w wr
 hb : b = w.heap.size
 hdb : db = b + 2
theorem DB.db {db b f o o' : Nat} {s : ByteArray} {e : Ev} {w wr w' : World} (h : DB db b f o s e w wr) (hc : Chg [db] wr w') (hd : DS w' db s o') : DB db b f o' s e w w' := by
 have h1 := h.hdb
 have h2 := h.hb
 exact ⟨hd, (hc.block b (lt_of_obj h.res) (by simp; omega)).trans h.res, (hc.block (b + 1) (lt_of_obj h.err) (by simp; omega)).trans h.err, h.chg.comp hc fun g hg => Or.inr (by have := List.mem_singleton.1 hg; omega), h2, h1⟩
theorem DB.set {db b f o : Nat} {s : ByteArray} {e e' : Ev} {w wr : World} (h : DB db b f o s e w wr) : DB db b f o s e' w (st5 wr b 0 e') := by
 have hcs := st5_chg wr b 0 e'
 have h1 := h.hdb
 have h2 := h.hb
 refine ⟨(hcs.block db (lt_of_obj h.ds) (by simp; omega)).trans h.ds, ?_, (hcs.block (b + 1) (lt_of_obj h.err) (by simp)).trans h.err, h.chg.comp hcs fun g hg => Or.inr (by have := List.mem_singleton.1 hg; omega), h2, h1⟩
 unfold st5
 exact heap_setCell_same (heap_setCell_same (heap_setCell_same (heap_setCell_same (heap_setCell_same h.res _) _) _) _) _
def DecPost (j : J) (f : Nat) (w : World) (e : Ending) (w' : World) : Prop := ∃ v', e = .returned (.tuple #[v', .int .i64 0]) ∧ JN w.heap.size f w' v' j ∧ Chg [] w w'
def BadPost (w : World) (e : Ending) (w' : World) : Prop := e = .returned (.tuple #[.agg #[.int .i64 0, .int .i64 0, .string ⟨#[]⟩, .slice none 0 0, .slice none 0 0], .int .i64 4]) ∧ Chg [] w w'
set_option maxRecDepth 100000 in
set_option maxHeartbeats 8000000 in
theorem decode_step (s : ByteArray) (j : J) (f o : Nat) (r : List UInt8) (w : World) (hpl : Pl j) (hs : s.size ≤ 4000) (hsk : skip s.data.toList = s.data.toList.drop o) (hr : s.data.toList.drop o = j.enc ++ r) (hrd : peekL r < 48 ∨ 57 < peekL r) (hv : j.valid u8 = 0) (hd : j.depth ≤ f) (hT : Tb w) :
 Calls Tryz.prog 45 #[.string s] w fun e w' => (skip r = [] → DecPost j f w e w') ∧ (skip r ≠ [] → BadPost w e w') := by
 have Hpl := Lib.hid hpl
 clear hpl
 have hsz : (s.size : Int) ≤ 4000 := by omega
 have hsl : s.data.toList.length = s.size := rfl
 obtain ⟨b, hb⟩ : ∃ b, b = w.heap.size := ⟨_, rfl⟩
 obtain ⟨w1, hw1⟩ : ∃ x, x = ((w.alloc (.cells #[.int .i64 0, .int .i64 0, .string ⟨#[]⟩, .slice none 0 0, .slice none 0 0] 59)).alloc (.cells #[.int .i64 0] 30)).alloc (.cells #[.string s, .int .i64 0] 150) := ⟨_, rfl⟩
 have hc1 : Chg [] w w1 := by rw [hw1]; exact (((Chg.refl [] w).alloc _).alloc _).alloc _
 have H1 : Hid (DB (b + 1 + 1) b f 0 s ev0 w w1) := Lib.hid ⟨by
  rw [hw1, hb]
  exact heap_at _ _ _ (by simp), by
  rw [hw1, hb, heap_past _ _ _ (by simp; omega), heap_past _ _ _ (by simp)]
  exact heap_at _ _ _ rfl, by
  rw [hw1, hb, heap_past _ _ _ (by simp)]
  exact heap_at _ _ _ (by simp), hc1, hb, rfl⟩
 have HTd : Hid (Tryz.laysValid_ren.g 3 ≠ b + 1 + 1 ∧ Tryz.laysValid_ren.g 4 ≠ b + 1 + 1) := Lib.hid (by
  have h1 := tb_lt hT
  omega)
 have HT := Lib.hid (hT.new hc1)
 have HTw := Lib.hid hT
 have Hr := Lib.hid (And.intro hr (And.intro hrd (And.intro hsk hd)))
 have Hv := Lib.hid hv
 have hs4 : decide ((4000 : Int) < s.size) = false := decide_eq_false (by omega)
 clear hc1 hT hr hrd hsk hd hv hsl
 go_enter_defers Tryz.func45, Tryz.ntmps45
 go_upto_region 5 with fail
 rw [← hw1, ← hb]
 clear hw1 hb
 have Hval := Lib.hid (value_ws (b + 1 + 1) s (by omega) HTd.out j f (Sm.of Hv.out) Hpl.out Hr.out.2.2.2 w1 0 o r H1.out.ds ⟨by omega, by rw [List.drop_zero]; exact Hr.out.2.2.1⟩ HT.out Hr.out.1 Hr.out.2.1)
 go_wp2_with (go_at_call 82; refine Hval.out.mono ?_; rintro e w2 ⟨v2, rfl, hv2, hd2, hc2⟩; obtain ⟨e2, rfl⟩ := hv2.ev'; have H2 := Lib.hid (H1.out.db hc2 hd2); have Hv2 := Lib.hid hv2; obtain ⟨r0, r1, r2, r3, r4⟩ := box_kept b H2.out.res (Chg.refl [] w2); have fr := fun i => frozen_of_heap (i := i) H2.out.res; have lr := lt_of_cell r0; clear hv2 hd2 hc2; unfold Ev.val)
 obtain ⟨w3, hw3⟩ : ∃ x, x = ((((w2.setCell ⟨b, 0, none⟩ (.int .i64 e2.k)).setCell ⟨b, 1, none⟩ (.int .i64 e2.n)).setCell ⟨b, 2, none⟩ (.string e2.t)).setCell ⟨b, 3, none⟩ (.slice e2.na e2.nl e2.nc)).setCell ⟨b, 4, none⟩ (.slice e2.ia e2.il e2.ic) := ⟨_, rfl⟩
 have H3 : Hid (DB (b + 1 + 1) b f (o + j.enc.length) s e2 w w3) := Lib.hid (by rw [hw3]; exact H2.out.set)
 have Hv3 : Hid (JN w1.heap.size f w3 e2.val j) := Lib.hid (by
  have hcs : Chg [b] w2 w3 := by rw [hw3]; exact st5_chg w2 b 0 e2
  have h1 := lt_of_obj H1.out.res
  exact (Hv2.out.kept hcs.toP fun g hg hm => by have := List.mem_singleton.1 hm; have := hg.1; omega).imp fun g hg => ⟨hg.1, Nat.lt_of_lt_of_le hg.2 hcs.size⟩)
 have Hdr : Hid (s.data.toList.drop (o + j.enc.length) = r) := Lib.hid (by rw [← List.drop_drop, Hr.out.1, List.drop_left])
 have hol : o + j.enc.length ≤ s.size := by
  have h1 := congrArg List.length Hr.out.1
  have h2 : s.data.toList.length = s.size := rfl
  have h3 : 0 < j.enc.length := by obtain ⟨x, y, hx, _⟩ := enc_head j; rw [hx]; simp
  rw [List.length_drop, List.length_append] at h1
  omega
 rw [← hw3]
 clear hw3 r0 r1 r2 r3 r4 fr lr
 refine (skip_any (b + 1 + 1) s (o + j.enc.length) w3 H3.out.ds hol (by omega)).mono ?_
 rintro e w4 ⟨rfl, o', ho1, ho2, hd4, hsk4, hc4⟩
 rw [Hdr.out] at hsk4
 have H4 := Lib.hid (H3.out.db hc4 hd4)
 have Hv4 : Hid (JN w1.heap.size f w4 e2.val j) := Lib.hid (by
  have h1 := lt_of_obj H1.out.ds
  exact (Hv3.out.kept hc4.toP fun g hg hm => by have := List.mem_singleton.1 hm; have := hg.1; omega).imp fun g hg => ⟨hg.1, Nat.lt_of_lt_of_le hg.2 hc4.size⟩)
 have c0 := H4.out.ds.c0
 have c1 := H4.out.ds.c1
 have lb := lt_of_cell c0
 obtain ⟨r0, r1, r2, r3, r4⟩ := box_kept b H4.out.res (Chg.refl [] w4)
 have fr := fun i => frozen_of_heap (i := i) H4.out.res
 have lr := lt_of_cell r0
 have hsl : s.data.toList.length = s.size := rfl
 by_cases hend : o' = s.size
 · subst hend
   have hnil : skip r = [] := by rw [← hsk4]; exact List.drop_of_length_le (by omega)
   have Hnil := Lib.hid hnil
   clear hsk4 hd4 hc4 hnil hsl ho1 ho2
   go_wp2_with (go_at_call 84; refine (expect_any (b + 1 + 1) true w4).mono ?_; rintro e w5 ⟨rfl, rfl⟩)
   refine (Validate_any _ f w5 j _ Hv4.out (HTw.out.new H4.out.chg) (fun g hg => hg.2)).mono ?_
   rintro e w6 ⟨rfl, hc6⟩
   rw [Hv.out]
   have H6 := Lib.hid (H4.out.db (hc6.mono (by simp)) (H4.out.ds.new hc6))
   have Hv6 := Lib.hid (Hv4.out.same hc6)
   clear hc6 r0 r1 r2 r3 r4 fr lr c0 c1 lb
   obtain ⟨r0, r1, r2, r3, r4⟩ := box_kept b H6.out.res (Chg.refl [] w6)
   have fr := fun i => frozen_of_heap (i := i) H6.out.res
   have lr := lt_of_cell r0
   have ev := cell_of_heap H6.out.err (i := 0) rfl
   have fe := fun i => frozen_of_heap (i := i) H6.out.err
   have le := lt_of_cell ev
   go_wp2_with fail
   obtain ⟨w7, hw7⟩ : ∃ x, x = (((((w6.setCell ⟨b, 0, none⟩ (.int .i64 e2.k)).setCell ⟨b, 1, none⟩ (.int .i64 e2.n)).setCell ⟨b, 2, none⟩ (.string e2.t)).setCell ⟨b, 3, none⟩ (.slice e2.na e2.nl e2.nc)).setCell ⟨b, 4, none⟩ (.slice e2.ia e2.il e2.ic)).setCell ⟨b + 1, 0, none⟩ (.int .i64 0) := ⟨_, rfl⟩
   have hcs := st5_chg w6 b 0 e2
   have hset := H6.out.set (e' := e2)
   have h7 : w7.heap[b]? = some (.cells #[.int .i64 e2.k, .int .i64 e2.n, .string e2.t, .slice e2.na e2.nl e2.nc, .slice e2.ia e2.il e2.ic] 59 (0, 0)) := by
    rw [hw7]
    exact (heap_setCell_ne (st5 w6 b 0 e2) ⟨b + 1, 0, none⟩ (.int .i64 0) b (by simp)).trans hset.res
   have h8 : w7.heap[b + 1]? = some (.cells #[.int .i64 0] 30 (0, 0)) := by
    rw [hw7]
    exact heap_setCell_same (i := 0) hset.err (.int .i64 0)
   have hc7 : Chg [b, b + 1] w6 w7 := by
    rw [hw7]
    exact (hcs.mono (by simp)).setCell (p := ⟨b + 1, 0, none⟩) (Or.inl (by simp)) _
   rw [← hw7]
   clear hw7 hcs hset r0 r1 r2 r3 r4 fr lr ev fe le
   have hfin : DecPost j f w (.returned (.tuple #[e2.val, .int .i64 0])) w7 := by
    have h1 := lt_of_obj H1.out.ds
    have hb := H6.out.hb
    refine ⟨_, rfl, ?_, H6.out.chg.comp hc7 fun g hg => Or.inr (by simp at hg; omega)⟩
    exact (Hv6.out.kept hc7.toP fun g hg hm => by simp at hm; have := hg.1; omega).imp fun g hg => ⟨by have := hg.1; omega, Nat.lt_of_lt_of_le hg.2 hc7.size⟩
   have Hfin := Lib.hid hfin
   obtain ⟨r0, r1, r2, r3, r4⟩ := box_kept b h7 (Chg.refl [] w7)
   have ev := cell_of_heap h8 (i := 0) rfl
   clear hfin h7 h8 hc7
   refine leaves_cons (f := 81) (args := #[.pointer (some ⟨b, 0, none⟩), .pointer (some ⟨b + 1, 0, none⟩)]) (by simp) (by simp [go_sem]) ?_
   refine (dec1_idle w7 _ _).mono ?_
   rintro e u' w'' ⟨rfl, rfl, rfl⟩
   simp [Leaves, settle, results, Tryz.results45, go_sem, r0, r1, r2, r3, r4, ev]
   exact ⟨fun _ => Hfin.out, fun h => absurd Hnil.out h⟩
 · have hnn : skip r ≠ [] := fun h => by
    rw [← hsk4] at h
    have h1 := congrArg List.length h
    rw [List.length_drop] at h1
    simp at h1
    omega
   have Hnn := Lib.hid hnn
   have hee : ((o' : Int) == s.size) = false := by simp; omega
   clear hsk4 hd4 hc4 hnn hsl ho1 ho2
   go_wp2_with (go_at_call 84; refine (expect_any (b + 1 + 1) false w4).mono ?_; rintro e w5 ⟨rfl, rfl⟩)
   have hp := dec1_panic w5 b e2 0 H4.out.res H4.out.err
   clear r0 r1 r2 r3 r4 fr lr c0 c1 lb hee
   refine leaves_cons (f := 81) (args := #[.pointer (some ⟨b, 0, none⟩), .pointer (some ⟨b + 1, 0, none⟩)]) (by simp) (by simp [go_sem]) ?_
   refine hp.mono ?_
   rintro e u' w6 ⟨rfl, rfl, h7, h8, hc6⟩
   obtain ⟨r0, r1, r2, r3, r4⟩ := box_kept b h7 (Chg.refl [] w6)
   have ev := cell_of_heap h8 (i := 0) rfl
   have hfin : BadPost w (.returned (.tuple #[.agg #[.int .i64 0, .int .i64 0, .string ⟨#[]⟩, .slice none 0 0, .slice none 0 0], .int .i64 4])) w6 := by
    have hb := H4.out.hb
    exact ⟨rfl, H4.out.chg.comp hc6 fun g hg => Or.inr (by simp at hg; omega)⟩
   have Hfin := Lib.hid hfin
   clear hfin h7 h8 hc6 hp
   simp [Leaves, settle, results, Tryz.results45, go_sem, r0, r1, r2, r3, r4, ev]
   exact ⟨fun h => absurd h Hnn.out, fun _ => Hfin.out⟩
set_option maxRecDepth 100000 in
theorem decode_enc (s : ByteArray) (j : J) (w : World) (hpl : Pl j) (hs : s.data.toList = j.enc) (hl : j.enc.length ≤ 4000) (hv : j.valid u8 = 0) (hT : Tb w) :
 Calls Tryz.prog 45 #[.string s] w (DecPost j j.depth w) := by
 have hsz : s.size ≤ 4000 := by rw [show s.size = s.data.toList.length from rfl, hs]; exact hl
 obtain ⟨c, l, h1, h2, _⟩ := enc_head j
 refine (decode_step s j j.depth 0 [] w hpl hsz ?_ (by rw [List.drop_zero, hs]; simp) (Or.inl (by decide)) hv (Nat.le_refl _) hT).mono fun e w' h => h.1 rfl
 rw [List.drop_zero, hs, h1, skip, h2]
 rfl
end Go.Proofs.YtjlknaahpjiibaaGreatDoor.Jv
