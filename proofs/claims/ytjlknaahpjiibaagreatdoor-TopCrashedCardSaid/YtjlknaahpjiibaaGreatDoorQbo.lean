/- Part of the proof of topCrashedLaw_holds. -/
import Derived.Test.YtjlknaahpjiibaaGreatDoorQbn
namespace Go.Proofs.YtjlknaahpjiibaaGreatDoor.Jv
open List (getElem_toArray getElem_cons_zero getElem_cons_succ setIfInBounds_toArray set_cons_zero set_cons_succ)
open Go.RowKit Go.ChangeMaps Go.MapKept
set_option linter.unusedVariables false
set_option linter.unusedSimpArgs false
structure EL (db b f o : Nat) (s : ByteArray) (kd : Int) (nv iv : Value) (ns : List ByteArray) (xs : List J) (w wr : World) : Prop where
 ds : DS wr db s o
 res : wr.heap[b]? = some (.cells #[.int .i64 0, .int .i64 0, .string ⟨#[]⟩, .slice none 0 0, .slice none 0 0] 59 (0, 0))
 box : wr.heap[b + 1]? = some (.cells #[.int .i64 kd, .int .i64 0, .string ⟨#[]⟩, nv, iv] 59 (0, 0))
 nms : OwnN wr (b + 2) nv ns
 row : JRowN (b + 2) f wr iv xs nv.ownBlock
 chg : Chg [db] w wr
 hb : b = w.heap.size
 hdb : db < b
theorem EL.db {db b f o o' : Nat} {s : ByteArray} {kd : Int} {nv iv : Value} {ns : List ByteArray} {xs : List J} {w wr w' : World} (h : EL db b f o s kd nv iv ns xs w wr) (hc : Chg [db] wr w') (hd : DS w' db s o') : EL db b f o' s kd nv iv ns xs w w' := by
 have h1 := h.hdb
 refine ⟨hd, ?_, ?_, h.nms.kept hc.toP fun g hg hm => ?_, h.row.kept hc.toP fun g hm => ?_, h.chg.trans hc, h.hb, h1⟩
 · exact (hc.block b (lt_of_obj h.res) (by simp; omega)).trans h.res
 · exact (hc.block (b + 1) (lt_of_obj h.box) (by simp; omega)).trans h.box
 · have := (ownsRow_ge h.nms.1 hg).1; have := List.mem_singleton.1 hm; omega
 · have := List.mem_singleton.1 hm; omega
theorem EL.sz {db b f o : Nat} {s : ByteArray} {kd : Int} {nv iv : Value} {ns : List ByteArray} {xs : List J} {w wr : World} (h : EL db b f o s kd nv iv ns xs w wr) : b + 2 ≤ wr.heap.size := lt_of_obj h.box
theorem EL.name {db b f o : Nat} {s : ByteArray} {kd : Int} {nv iv : Value} {ns : List ByteArray} {xs : List J} {w wr : World} (h : EL db b f o s kd nv iv ns xs w wr) {t : ByteArray} (ht : t.size ≤ maxLen) (hl : ns.length ≤ 90000) :
 ∃ a c w8, (Builtin.append_ #[22, 22] 22 #[nv, .slice (some ⟨wr.heap.size, 0, none⟩) 1 1]).run Tryz.prog (wr.alloc (.cells #[.string t] 9)) = .ok (.slice a (ns.length + 1) c) w8 ∧ w8.heap[b + 1]? = some (.cells #[.int .i64 kd, .int .i64 0, .string ⟨#[]⟩, nv, iv] 59 (0, 0)) ∧
  EL db b f o s kd (.slice a (ns.length + 1) c) iv (ns ++ [t]) xs w (w8.setCell ⟨b + 1, 3, none⟩ (.slice a (ns.length + 1) c)) := by
 obtain ⟨w7, hw7⟩ : ∃ x, x = wr.alloc (.cells #[.string t] 9) := ⟨_, rfl⟩
 have hc7 : Chg [] wr w7 := by rw [hw7]; exact (Chg.refl _ _).alloc _
 have hb7 : w7.heap[wr.heap.size]? = some (.cells #[.string t] 9 (0, 0)) := by rw [hw7]; exact heap_at _ _ _ rfl
 rw [← hw7]
 have hs7 := hc7.size
 have hsz := h.sz
 obtain ⟨a, c, w8, hr, hn8, hc8, hob⟩ := run_append_nm w7 22 (b + 2) nv ns t _ (h.nms.same hc7) ht hb7 (by omega) (by omega)
 have hown : ∀ g, g ∈ nv.ownBlock.toList → b + 2 ≤ g := fun g hg => (ownsRow_ge h.nms.1 (g := g) (by simpa using hg)).1
 have h7 : EL db b f o s kd nv iv ns xs w w7 := h.db (hc7.mono (by simp)) (h.ds.new hc7)
 have hbx8 := (hc8.block (b + 1) (lt_of_obj h7.box) (fun hm => by have := hown _ hm; omega)).trans h7.box
 have hrs8 := (hc8.block b (lt_of_obj h7.res) (fun hm => by have := hown _ hm; omega)).trans h7.res
 have hcs : Chg [b + 1] w8 (w8.setCell ⟨b + 1, 3, none⟩ (.slice a (ns.length + 1) c)) := (Chg.refl [b + 1] w8).setCell (Or.inl (by simp)) _
 have hdb := h.hdb
 refine ⟨a, c, w8, hr, hbx8, ?_, ?_, heap_setCell_same hbx8 _, ?_, ?_, ?_, h.hb, hdb⟩
 · exact (hcs.block db (lt_of_obj ((hc8.block db (lt_of_obj h7.ds) (fun hm => by have := hown _ hm; omega)).trans h7.ds)) (by simp; omega)).trans ((hc8.block db (lt_of_obj h7.ds) (fun hm => by have := hown _ hm; omega)).trans h7.ds)
 · exact (hcs.block b (lt_of_obj hrs8) (by simp)).trans hrs8
 · exact hn8.kept hcs.toP fun g hg hm => by have := (ownsRow_ge hn8.1 hg).1; have := List.mem_singleton.1 hm; omega
 · exact (h7.row.names h7.nms hc8 hob).kept hcs.toP fun g hm => by have := List.mem_singleton.1 hm; omega
 · have hb := h.hb
   exact (h7.chg.comp hc8 fun g hg => Or.inr (by have := hown _ hg; omega)).comp hcs fun g hg => Or.inr (by rw [List.mem_singleton.1 hg]; omega)
theorem EL.elem {db b f o o' : Nat} {s : ByteArray} {kd : Int} {nv iv : Value} {ns : List ByteArray} {xs : List J} {w wr w6 : World} (h : EL db b f o s kd nv iv ns xs w wr) (hc : Chg [db] wr w6) (hd : DS w6 db s o') {e6 : Ev} {el : J} (hv : JN wr.heap.size f w6 e6.val el) (hl : xs.length ≤ 90000) :
 ∃ a c w8, (Builtin.append_ #[57, 57] 57 #[iv, .slice (some ⟨w6.heap.size, 0, none⟩) 1 1]).run Tryz.prog (w6.alloc (.cells #[.int .i64 e6.k, .int .i64 e6.n, .string e6.t, .slice e6.na e6.nl e6.nc, .slice e6.ia e6.il e6.ic] 59)) = .ok (.slice a (xs.length + 1) c) w8 ∧ w8.heap[b + 1]? = some (.cells #[.int .i64 kd, .int .i64 0, .string ⟨#[]⟩, nv, iv] 59 (0, 0)) ∧
  EL db b f o' s kd nv (.slice a (xs.length + 1) c) ns (xs ++ [el]) w (w8.setCell ⟨b + 1, 4, none⟩ (.slice a (xs.length + 1) c)) := by
 obtain ⟨w7, hw7⟩ : ∃ x, x = w6.alloc (.cells #[.int .i64 e6.k, .int .i64 e6.n, .string e6.t, .slice e6.na e6.nl e6.nc, .slice e6.ia e6.il e6.ic] 59) := ⟨_, rfl⟩
 have hc7 : Chg [] w6 w7 := by rw [hw7]; exact (Chg.refl _ _).alloc _
 have hb7 : w7.heap[w6.heap.size]? = some (.cells #[.int .i64 e6.k, .int .i64 e6.n, .string e6.t, .slice e6.na e6.nl e6.nc, .slice e6.ia e6.il e6.ic] 59 (0, 0)) := by rw [hw7]; exact heap_at _ _ _ rfl
 rw [← hw7]
 have hs6 := hc.size
 have hs7 := hc7.size
 have hsz := h.sz
 have h6 : EL db b f o' s kd nv iv ns xs w w6 := h.db hc hd
 have h7 : EL db b f o' s kd nv iv ns xs w w7 := h6.db (hc7.mono (by simp)) (hd.new hc7)
 have hv7 : JV (fun g => ((b + 2 ≤ g ∧ g < w7.heap.size) ∧ iv.ownBlock ≠ some g) ∧ nv.ownBlock ≠ some g) f w7 e6.val el := (hv.same hc7).imp fun g hg => ⟨⟨⟨by have := hg.1; omega, hg.2⟩, fun e => by have := (h.row.own e).2; have := hg.1; omega⟩, fun e => by have := (ownsRow_ge h.nms.1 e).2; have := hg.1; omega⟩
 obtain ⟨a, c, w8, hr, hr8, hc8⟩ := h7.row.push 57 hb7 hv7 (by omega) (by omega)
 have hown : ∀ g, g ∈ iv.ownBlock.toList → b + 2 ≤ g := fun g hg => (h.row.own (g := g) (by simpa using hg)).1
 have hbx8 := (hc8.block (b + 1) (lt_of_obj h7.box) (fun hm => by have := hown _ hm; omega)).trans h7.box
 have hrs8 := (hc8.block b (lt_of_obj h7.res) (fun hm => by have := hown _ hm; omega)).trans h7.res
 have hcs : Chg [b + 1] w8 (w8.setCell ⟨b + 1, 4, none⟩ (.slice a (xs.length + 1) c)) := (Chg.refl [b + 1] w8).setCell (Or.inl (by simp)) _
 have hdb := h.hdb
 have hn8 : OwnN w8 (b + 2) nv ns := h7.nms.kept hc8.toP fun g hg hm => by
  have hm' : iv.ownBlock = some g := by simpa using hm
  obtain ⟨es, _, h2, _⟩ := h7.row
  rcases h2.2 with ⟨h0, _⟩ | ⟨g', cap', cur, hv, _, hh, _⟩
  · subst h0; cases hm'
  · subst hv
    simp only [Value.ownBlock, Option.some.injEq] at hm'
    subst hm'
    exact own_ne h7.nms.1 hg hh
 refine ⟨a, c, w8, hr, hbx8, ?_, ?_, heap_setCell_same hbx8 _, ?_, ?_, ?_, h.hb, hdb⟩
 · exact (hcs.block db (lt_of_obj ((hc8.block db (lt_of_obj h7.ds) (fun hm => by have := hown _ hm; omega)).trans h7.ds)) (by simp; omega)).trans ((hc8.block db (lt_of_obj h7.ds) (fun hm => by have := hown _ hm; omega)).trans h7.ds)
 · exact (hcs.block b (lt_of_obj hrs8) (by simp)).trans hrs8
 · exact hn8.kept hcs.toP fun g hg hm => by have := (ownsRow_ge hn8.1 hg).1; have := List.mem_singleton.1 hm; omega
 · exact hr8.kept hcs.toP fun g hm => by have := List.mem_singleton.1 hm; omega
 · have hb := h.hb
   exact (h7.chg.comp hc8 fun g hg => Or.inr (by have := hown _ hg; omega)).comp hcs fun g hg => Or.inr (by rw [List.mem_singleton.1 hg]; omega)
theorem EL.done {db b f o nl nc il ic : Nat} {s : ByteArray} {kd : Int} {na ia : Option Addr} {ns : List ByteArray} {xs : List J} {w wr : World} (h : EL db b f o s kd (.slice na nl nc) (.slice ia il ic) ns xs w wr) :
 JN w.heap.size (f + 1) (st5 wr b 0 ⟨kd, 0, ⟨#[]⟩, na, nl, nc, ia, il, ic⟩) (.agg #[.int .i64 kd, .int .i64 0, .string ⟨#[]⟩, .slice na nl nc, .slice ia il ic]) (.mk kd 0 ⟨#[]⟩ ns xs) ∧ DS (st5 wr b 0 ⟨kd, 0, ⟨#[]⟩, na, nl, nc, ia, il, ic⟩) db s o ∧ Chg [db] w (st5 wr b 0 ⟨kd, 0, ⟨#[]⟩, na, nl, nc, ia, il, ic⟩) := by
 have hcs := st5_chg wr b 0 ⟨kd, 0, ⟨#[]⟩, na, nl, nc, ia, il, ic⟩
 have hb := h.hb
 have hdb := h.hdb
 refine ⟨JN.base (B := b + 2) (JN.mk ?_ ?_ (by decide)) (by omega), (hcs.block db (lt_of_obj h.ds) (by simp; omega)).trans h.ds, h.chg.comp hcs fun g hg => Or.inr (by rw [List.mem_singleton.1 hg]; omega)⟩
 · refine (h.nms.kept hcs.toP fun g hg hm => ?_).read fun g hg => ?_
   · have := (ownsRow_ge h.nms.1 hg).1; have := List.mem_singleton.1 hm; omega
   · have h3 := ownsRow_ge h.nms.1 hg; exact ⟨h3.1, Nat.lt_of_lt_of_le h3.2 hcs.size⟩
 · exact (h.row.kept hcs.toP (fun g hg => by rw [List.mem_singleton.1 hg]; omega)).read
def VOk (db : Nat) (s : ByteArray) (f : Nat) (j : J) : Prop := ∀ (w : World) (o : Nat) (r : List UInt8), DS w db s o → Tb w → s.data.toList.drop o = j.enc ++ r → (peekL r < 48 ∨ 57 < peekL r) → Calls Tryz.prog 82 #[.pointer (some ⟨db, 0, none⟩)] w fun e w' => ∃ v', e = .returned v' ∧ JN w.heap.size f w' v' j ∧ DS w' db s (o + j.enc.length) ∧ Chg [db] w w'
theorem tb_db {db : Nat} {w w' : World} (h : Tb w) (hd : Tryz.laysValid_ren.g 3 ≠ db ∧ Tryz.laysValid_ren.g 4 ≠ db) (hc : Chg [db] w w') : Tb w' := h.kept hc.toP (by simpa using hd.1) (by simpa using hd.2)
def nmL (kd : Int) (ns : List ByteArray) (i : Nat) : List UInt8 := if kd = 5 then encS (ns.getD i ⟨#[]⟩) ++ [58] else []
theorem encS_len (t : ByteArray) : t.size + 2 ≤ (encS t).length := by
 have h := escL_len t.data.toList
 have h1 : t.data.toList.length = t.size := rfl
 simp only [encS, List.length_cons, List.length_append, List.length_nil]
 omega
theorem nm_head (kd : Int) (cl : UInt8) (ns : List ByteArray) (e : J) (i : Nat) (R : List UInt8) (hk : kd = 4 ∧ cl = 93 ∨ kd = 5 ∧ cl = 125) : ∃ c l, nmL kd ns i ++ (e.enc ++ R) = c :: l ∧ sp c = false ∧ (c == cl) = false := by
 rcases hk with ⟨rfl, rfl⟩ | ⟨rfl, rfl⟩
 · obtain ⟨c, l, h1, h2, h3, h4, h5⟩ := enc_head e
   refine ⟨c, l ++ R, ?_, h2, beq_eq_false_iff_ne.2 h3⟩
   unfold nmL
   rw [if_neg (by decide), h1]
   rfl
 · unfold nmL
   rw [if_pos rfl]
   exact ⟨34, _, rfl, by decide, by decide⟩
theorem encL_first (kd : Int) (ns : List ByteArray) (es : List J) (i : Nat) (hi : i < es.length) (R : List UInt8) : encL kd i ns (es.drop i) ++ R = (if 0 < i then [44] else []) ++ (nmL kd ns i ++ (es[i].enc ++ (encL kd (i + 1) ns (es.drop (i + 1)) ++ R))) := by
 rw [encL_drop hi]
 unfold nmL
 simp only [List.append_assoc]
theorem encL_last (kd : Int) (ns : List ByteArray) (es : List J) (i : Nat) (hi : es.length ≤ i) (R : List UInt8) : encL kd i ns (es.drop i) ++ R = R := by
 rw [List.drop_of_length_le hi, encL]
 rfl
set_option maxRecDepth 100000 in
set_option maxHeartbeats 16000000 in
theorem elements_yes (db f : Nat) (s : ByteArray) (hs : s.size ≤ 100000) (kd : Int) (cl : UInt8) (ns : List ByteArray) (es : List J) (hk : kd = 4 ∧ cl = 93 ∧ ns = [] ∨ kd = 5 ∧ cl = 125 ∧ ns.length = es.length ∧ ns.Nodup) (hu : ∀ t ∈ ns, u8 t = true ∧ plT t = true) (hle : es.length ≤ 400) (hV : ∀ e ∈ es, VOk db s f e)
 (hTd : Tryz.laysValid_ren.g 3 ≠ db ∧ Tryz.laysValid_ren.g 4 ≠ db) (w : World) (o : Nat) (r : List UInt8) (h : DS w db s o) (hT : Tb w) (hr : s.data.toList.drop o = encL kd 0 ns es ++ cl :: r) :
 Calls Tryz.prog 134 #[.pointer (some ⟨db, 0, none⟩), .int .i64 kd, .string ⟨#[cl]⟩] w fun e w' => ∃ v', e = .returned v' ∧ JN w.heap.size (f + 1) w' v' (.mk kd 0 ⟨#[]⟩ ns es) ∧ DS w' db s (o + (encL kd 0 ns es).length + 1) ∧ Chg [db] w w' := by
 have hk' : kd = 4 ∧ cl = 93 ∨ kd = 5 ∧ cl = 125 := hk.imp (fun h => ⟨h.1, h.2.1⟩) fun h => ⟨h.1, h.2.1⟩
 have hsl : s.data.toList.length = s.size := rfl
 have hcls : sp cl = false := by rcases hk' with ⟨_, rfl⟩ | ⟨_, rfl⟩ <;> decide
 have hclc : (44 == cl) = false := by rcases hk' with ⟨_, rfl⟩ | ⟨_, rfl⟩ <;> decide
 obtain ⟨c, l, hcl, hc0, hc1⟩ : ∃ c l, s.data.toList.drop o = c :: l ∧ sp c = false ∧ (c == cl) = decide (es.length = 0) := by
  rw [hr]
  cases es with
  | nil => exact ⟨cl, r, rfl, hcls, by simp⟩
  | cons e es =>
    obtain ⟨c, l, h1, h2, h3⟩ := nm_head kd cl ns e 0 (encL kd 1 ns es ++ cl :: r) hk'
    have h4 := encL_first kd ns (e :: es) 0 (by simp) (cl :: r)
    simp only [List.drop_zero, Nat.lt_irrefl, if_false, List.nil_append, getElem_cons_zero, Nat.zero_add, List.drop_succ_cons] at h4
    exact ⟨c, l, h4.trans h1, h2, by rw [h3]; simp⟩
 have hol := (peek_cons hcl).2.1
 obtain ⟨b, hb⟩ : ∃ b, b = w.heap.size := ⟨_, rfl⟩
 obtain ⟨w2, hw2⟩ : ∃ x, x = (w.alloc (.cells #[.int .i64 0, .int .i64 0, .string ⟨#[]⟩, .slice none 0 0, .slice none 0 0] 59)).alloc (.cells #[.int .i64 kd, .int .i64 0, .string ⟨#[]⟩, .slice none 0 0, .slice none 0 0] 59) := ⟨_, rfl⟩
 have hc2 : Chg [] w w2 := by rw [hw2]; exact ((Chg.refl [] w).alloc _).alloc _
 have hdb := lt_of_obj h
 have H2 : Hid (EL db b f o s kd (.slice none 0 0) (.slice none 0 0) [] [] w w2) := Lib.hid ⟨h.new hc2, by
  rw [hw2, hb, heap_past _ _ _ (by simp)]
  exact heap_at _ _ _ rfl, by rw [hw2, hb]; exact heap_at _ _ _ (by simp), OwnN.nil _ _, JRowN.nil _ _ _ _, hc2.mono (by simp), hb, by rw [hb]; exact hdb⟩
 have HT := Lib.hid hT
 have Hk := Lib.hid hk
 have Hk' := Lib.hid hk'
 have Hcl := Lib.hid (And.intro hcl hc0)
 have Hcls := Lib.hid (And.intro hcls hclc)
 have Hr := Lib.hid hr
 have He := Lib.hid (fun W => expect_any db true W)
 clear h hc2 hT hk hk' hcl hc0 hr hdb hcls hclc hsl
 go_enter Tryz.func134, Tryz.ntmps134
 go_upto_region 2 with fail
 rw [← hw2, ← hb]
 clear hw2 hb
 go_wp2_with fail
 refine (skip_no db s o c l w2 H2.out.ds hs Hcl.out.1 Hcl.out.2).mono ?_
 rintro e w3 ⟨rfl, hd3, hc3⟩
 have H3 := Lib.hid (H2.out.db hc3 hd3)
 clear hd3 hc3
 go_wp2_with fail
 refine (accept_one db s o c cl l w3 H3.out.ds hs Hcl.out.1).mono ?_
 rintro e w4 ⟨rfl, hd4, hc4⟩
 rw [hc1] at hd4 ⊢
 have H4 := Lib.hid (H3.out.db hc4 hd4)
 clear hd4 hc4 hc1
 by_cases h0 : es.length = 0
 · obtain rfl : es = [] := List.eq_nil_of_length_eq_zero h0
   simp only [List.length_nil, decide_true, if_true] at H4 ⊢
   obtain ⟨b0, b1, b2, b3, b4⟩ := box_kept (b + 1) H4.out.box (Chg.refl [] w4)
   obtain ⟨r0, r1, r2, r3, r4⟩ := box_kept b H4.out.res (Chg.refl [] w4)
   have fr := fun i => frozen_of_heap (i := i) H4.out.res
   have lr := lt_of_cell r0
   have Hns : Hid (ns = []) := Lib.hid (by
    rcases Hk.out with h | h
    · exact h.2.2
    · exact List.eq_nil_of_length_eq_zero h.2.2.1)
   clear h0
   go_wp2_with fail
   refine bodyPost_ret (v := .agg #[.int .i64 kd, .int .i64 0, .string ⟨#[]⟩, .slice none 0 0, .slice none 0 0]) (by simp [results, Tryz.results134, go_sem, r0, r1, r2, r3, r4]) rfl ?_
   have hD := H4.out.done
   rw [Hns.out]
   exact ⟨_, rfl, hD.1, hD.2.1, hD.2.2⟩
 · simp only [h0, decide_false, Bool.false_eq_true, if_false] at H4 ⊢
   go_wp2_with fail
   go_loopw [] (fun wr => ∃ (i q : Nat) (na : Option Addr) (nl nc : Nat) (ia : Option Addr) (il ic : Nat), i < es.length ∧ Hid (EL db b f q s kd (.slice na nl nc) (.slice ia il ic) (ns.take i) (es.take i) w wr) ∧ Hid (∀ hi : i < es.length, s.data.toList.drop q = nmL kd ns i ++ (es[i].enc ++ (encL kd (i + 1) ns (es.drop (i + 1)) ++ cl :: r)))) (fun wr => s.size - offW wr db)
   case atStart =>
    refine ⟨0, o, none, 0, 0, none, 0, 0, by omega, Lib.hid (by simpa using H4.out), Lib.hid fun hi => ?_⟩
    have h4 := encL_first kd ns es 0 hi (cl :: r)
    simp only [List.drop_zero, Nat.lt_irrefl, if_false, List.nil_append] at h4
    rw [Hr.out, h4]
   case round =>
    obtain ⟨i, q, na, nl, nc, ia, il, ic, hi, HR, HQ⟩ := hrel
    have hoff := HR.out.ds.off
    have Hq := Lib.hid (HQ.out hi)
    have Hrst : Hid (peekL (encL kd (i + 1) ns (es.drop (i + 1)) ++ cl :: r) < 48 ∨ 57 < peekL (encL kd (i + 1) ns (es.drop (i + 1)) ++ cl :: r)) := Lib.hid (by
     by_cases hl : i + 1 < es.length
     · rw [encL_first kd ns es (i + 1) hl, if_pos (by omega)]
       exact Or.inl (show (44 : UInt8).toNat < 48 by decide)
     · rw [encL_last kd ns es (i + 1) (by omega)]
       rcases Hk'.out with ⟨_, rfl⟩ | ⟨_, rfl⟩
       · exact Or.inr (show 57 < (93 : UInt8).toNat by decide)
       · exact Or.inr (show 57 < (125 : UInt8).toNat by decide))
    obtain ⟨c, l, hh1, hh2, hh3⟩ := nm_head kd cl ns es[i] i (encL kd (i + 1) ns (es.drop (i + 1)) ++ cl :: r) Hk'.out
    have Hh := Lib.hid (And.intro (Hq.out.trans hh1) hh2)
    clear hh1 hh2 hh3 HQ hoff
    go_wp2_with fail
    refine (skip_no db s q c l wr HR.out.ds hs Hh.out.1 Hh.out.2).mono ?_
    rintro e w5 ⟨rfl, hd5, hc5⟩
    have H5 := Lib.hid (HR.out.db hc5 hd5)
    clear hd5 hc5
    by_cases hk5 : kd = 5
    · have hkn : ns.length = es.length := by
       rcases Hk.out with h | h
       · omega
       · exact h.2.2.1
      have Hn : Hid (nmL kd ns i = encS (ns[i]'(by omega)) ++ [58] ∧ ns.take (i + 1) = ns.take i ++ [ns[i]'(by omega)] ∧ (u8 (ns[i]'(by omega)) = true ∧ plT (ns[i]'(by omega)) = true)) := Lib.hid ⟨by
       unfold nmL
       rw [if_pos hk5, List.getD_eq_getElem?_getD, List.getElem?_eq_getElem (by omega)]
       rfl, by rw [List.take_add_one, List.getElem?_eq_getElem (by omega)]; rfl, hu _ (List.getElem_mem _)⟩
      generalize ns[i]'(by omega) = t at Hn
      subst hk5
      have Hqt : Hid (s.data.toList.drop q = encS t ++ (58 :: (es[i].enc ++ (encL 5 (i + 1) ns (es.drop (i + 1)) ++ cl :: r)))) := Lib.hid (by rw [Hq.out, Hn.out.1, List.append_assoc]; rfl)
      have Hts : Hid (t.size ≤ maxLen ∧ ns.length = es.length) := Lib.hid ⟨by
       have h1 := congrArg List.length Hqt.out
       have h2 := encS_len t
       have h4 : s.data.toList.length = s.size := rfl
       rw [List.length_drop, List.length_append] at h1
       unfold maxLen
       omega, hkn⟩
      clear hkn
      go_upto_region 7 with fail
      refine wp_region_U (fun w' => w'.cell? ⟨b + 1, 3, none⟩ = some (.slice na nl nc)) (fun _ => True) 7 (by kernel_rfl) ?_
      intro wd hwd
      have hcd : Chg [] w5 wd := by rw [hwd]; exact (Chg.refl _ _).drew
      have Hcd := Lib.hid hcd
      have Hd := Lib.hid (H5.out.db (hcd.mono (by simp)) (H5.out.ds.new hcd))
      have hSW := cell_of_heap Hd.out.box (i := 3) rfl
      clear hwd hcd
      refine anyU_pure (i := 0) (v := .pointer (some ⟨b + 1, 3, none⟩)) rfl (by kernel_rfl) (fun _ _ _ h => h) (Or.inl ⟨by rfl, fun w' hS => by go_simp⟩) (fun _ => hSW) trivial ?_
      simp only [Act.put, setIfInBounds_toArray, set_cons_zero, set_cons_succ]
      refine anyU_take (i := 1) (v := .slice na nl nc) rfl (by kernel_rfl) (fun _ _ _ h => h) (Or.inl ⟨by rfl, fun w' hS => by go_simp⟩) hSW trivial ?_
      simp only [Act.put, setIfInBounds_toArray, set_cons_zero, set_cons_succ]
      refine anyU_pure (i := 2) (v := .pointer (some ⟨db, 0, none⟩)) rfl (by kernel_rfl) (fun _ _ _ h => h) (Or.inl ⟨by rfl, fun w' hS => by go_simp⟩) (fun _ => hSW) trivial ?_
      simp only [Act.put, setIfInBounds_toArray, set_cons_zero, set_cons_succ]
      refine anyU_one (k := 3) (by kernel_rfl) rfl (fun K hK => ?_)
      go_simp
      refine (text_yes db s t q _ wd Hd.out.ds hs Hqt.out (tb_db HT.out hTd Hd.out.chg) hTd Hn.out.2.2).mono ?_
      rintro e w6 ⟨rfl, hd6, hc6⟩
      have H6 := Lib.hid (Hd.out.db hc6 hd6)
      clear hd6 hc6
      have hS6 := cell_of_heap H6.out.box (i := 3) rfl
      clear hSW
      refine hK _ _ (fun _ => hS6) trivial ?_
      clear hK K
      refine anyU_one (k := 4) (by kernel_rfl) rfl (fun K hK => ?_)
      go_simp
      obtain ⟨a7, c7, w8, hr8, hbx8, h8⟩ := H6.out.name Hts.out.1 (by rw [List.length_take]; omega)
      have hl9 : (ns.take i).length = i := by rw [List.length_take]; have := Hts.out.2; omega
      rw [hl9] at hr8 h8
      rw [← Hn.out.2.1] at h8
      have Hr8 := Lib.hid hr8
      have Hbx8 := Lib.hid hbx8
      have H8 := Lib.hid h8
      have H7 := Lib.hid ((heap_past w6 (.cells #[.string t] 9) _ (lt_of_obj H6.out.box)).trans H6.out.box)
      clear hr8 hbx8 h8 hl9
      have hS7 := cell_of_heap H7.out (i := 3) rfl
      refine hK _ _ (fun _ => hS7) trivial ?_
      clear hK K
      refine anyU_one (k := 5) (by kernel_rfl) rfl (fun K hK => ?_)
      rw [if_pos (by rfl)]
      refine wp_append_run _ _ 22 rfl _ _ _ _ rfl rfl Hr8.out ?_
      have hS8 := cell_of_heap Hbx8.out (i := 3) rfl
      have f8 := frozen_of_heap (i := 3) Hbx8.out
      clear hS6 hS7
      refine hK _ _ (fun _ => hS8) trivial ?_
      clear hK K
      simp only [Act.put, setIfInBounds_toArray, set_cons_zero, set_cons_succ]
      refine anyU_one (k := 6) (by kernel_rfl) rfl (fun K hK => ?_)
      go_simp
      refine hK _ _ (fun _ => hS8) trivial ?_
      clear hK K
      refine anyU_one (k := 7) (by kernel_rfl) rfl (fun K hK => ?_)
      go_simp
      refine hK _ _ (fun h => by simp at h) trivial ?_
      clear hK K hS8 f8
      refine anyU_done (by kernel_rfl) ?_
      obtain ⟨w9, hw9⟩ : ∃ x, x = w8.setCell ⟨b + 1, 3, none⟩ (.slice a7 (i + 1) c7) := ⟨_, rfl⟩
      rw [← hw9] at H8 ⊢
      obtain ⟨q4, hq4⟩ : ∃ x, x = q + (encS t).length := ⟨_, rfl⟩
      have Hrs : Hid (s.data.toList.drop q4 = 58 :: (es[i].enc ++ (encL 5 (i + 1) ns (es.drop (i + 1)) ++ cl :: r))) := Lib.hid (by rw [hq4, ← List.drop_drop, Hqt.out, List.drop_left])
      rw [← hq4] at H8
      have Hq' : Hid (s.data.toList.drop (q4 + 1) = es[i].enc ++ (encL 5 (i + 1) ns (es.drop (i + 1)) ++ cl :: r)) := Lib.hid (by rw [← List.drop_drop, Hrs.out]; rfl)
      have Hqq : Hid (q ≤ q4 + 1) := Lib.hid (by omega)
      clear hw9 hq4
      go_wp2_with fail
      refine (skip_no db s q4 58 _ w9 H8.out.ds hs Hrs.out (by decide)).mono ?_
      rintro e wa ⟨rfl, hda, hca⟩
      have Ha := Lib.hid (H8.out.db hca hda)
      clear hda hca
      go_wp2_with fail
      refine (accept_one db s q4 58 58 _ wa Ha.out.ds hs Hrs.out).mono ?_
      rintro e wb ⟨rfl, hdb', hcb⟩
      have Hb := Lib.hid (Ha.out.db hcb hdb')
      clear hdb' hcb
      simp only [beq_self_eq_true, if_true] at Hb ⊢
      go_wp2_with fail
      refine (He.out wb).mono ?_
      rintro e wc ⟨rfl, rfl⟩
      go_upto_region 10 with fail
      refine wp_region_U (fun w' => w'.cell? ⟨b + 1, 4, none⟩ = some (.slice ia il ic)) (fun _ => True) 7 (by kernel_rfl) ?_
      intro wd hwd
      have hcd : Chg [] wc wd := by rw [hwd]; exact (Chg.refl _ _).drew
      have Hcd := Lib.hid hcd
      have Hd := Lib.hid (Hb.out.db (hcd.mono (by simp)) (Hb.out.ds.new hcd))
      have hSW := cell_of_heap Hd.out.box (i := 4) rfl
      clear hwd hcd
      refine anyU_pure (i := 0) (v := .pointer (some ⟨b + 1, 4, none⟩)) rfl (by kernel_rfl) (fun _ _ _ h => h) (Or.inl ⟨by rfl, fun w' hS => by go_simp⟩) (fun _ => hSW) trivial ?_
      simp only [Act.put, setIfInBounds_toArray, set_cons_zero, set_cons_succ]
      refine anyU_take (i := 1) (v := .slice ia il ic) rfl (by kernel_rfl) (fun _ _ _ h => h) (Or.inl ⟨by rfl, fun w' hS => by go_simp⟩) hSW trivial ?_
      simp only [Act.put, setIfInBounds_toArray, set_cons_zero, set_cons_succ]
      refine anyU_pure (i := 2) (v := .pointer (some ⟨db, 0, none⟩)) rfl (by kernel_rfl) (fun _ _ _ h => h) (Or.inl ⟨by rfl, fun w' hS => by go_simp⟩) (fun _ => hSW) trivial ?_
      simp only [Act.put, setIfInBounds_toArray, set_cons_zero, set_cons_succ]
      refine anyU_one (k := 3) (by kernel_rfl) rfl (fun K hK => ?_)
      go_simp
      refine (hV _ (List.getElem_mem hi) wd _ _ Hd.out.ds (tb_db HT.out hTd Hd.out.chg) Hq'.out Hrst.out).mono ?_
      rintro e w6 ⟨v6, rfl, hv6, hd6, hc6⟩
      obtain ⟨e6, rfl⟩ := hv6.ev'
      have H6 := Lib.hid (Hd.out.db hc6 hd6)
      have H6v := Lib.hid (And.intro hv6 (And.intro hd6 hc6))
      clear hv6 hd6 hc6
      have hS6 := cell_of_heap H6.out.box (i := 4) rfl
      clear hSW
      refine hK _ _ (fun _ => hS6) trivial ?_
      clear hK K
      unfold Ev.val
      refine anyU_one (k := 4) (by kernel_rfl) rfl (fun K hK => ?_)
      go_simp
      obtain ⟨a8, c8, w8, hr8, hbx8, h8⟩ := Hd.out.elem H6v.out.2.2 H6v.out.2.1 H6v.out.1 (by rw [List.length_take]; omega)
      have hl9 : (es.take i).length = i := by rw [List.length_take]; omega
      rw [hl9] at hr8 h8
      have Hr8 := Lib.hid hr8
      have Hbx8 := Lib.hid hbx8
      have H8 := Lib.hid h8
      have H7 := Lib.hid ((heap_past w6 (.cells #[.int .i64 e6.k, .int .i64 e6.n, .string e6.t, .slice e6.na e6.nl e6.nc, .slice e6.ia e6.il e6.ic] 59) _ (lt_of_obj H6.out.box)).trans H6.out.box)
      clear hr8 hbx8 h8 hl9
      have hS7 := cell_of_heap H7.out (i := 4) rfl
      refine hK _ _ (fun _ => hS7) trivial ?_
      clear hK K
      refine anyU_one (k := 5) (by kernel_rfl) rfl (fun K hK => ?_)
      rw [if_pos (by rfl)]
      refine wp_append_run _ _ 57 rfl _ _ _ _ rfl rfl Hr8.out ?_
      have hS8 := cell_of_heap Hbx8.out (i := 4) rfl
      have f8 := frozen_of_heap (i := 4) Hbx8.out
      clear hS6 hS7
      refine hK _ _ (fun _ => hS8) trivial ?_
      clear hK K
      simp only [Act.put, setIfInBounds_toArray, set_cons_zero, set_cons_succ]
      refine anyU_one (k := 6) (by kernel_rfl) rfl (fun K hK => ?_)
      go_simp
      refine hK _ _ (fun _ => hS8) trivial ?_
      clear hK K
      refine anyU_one (k := 7) (by kernel_rfl) rfl (fun K hK => ?_)
      go_simp
      refine hK _ _ (fun h => by simp at h) trivial ?_
      clear hK K hS8 f8
      refine anyU_done (by kernel_rfl) ?_
      obtain ⟨w9, hw9⟩ : ∃ x, x = w8.setCell ⟨b + 1, 4, none⟩ (.slice a8 (i + 1) c8) := ⟨_, rfl⟩
      have htk : es.take i ++ [es[i]] = es.take (i + 1) := by rw [List.take_add_one, List.getElem?_eq_getElem hi]; rfl
      have hrest : s.data.toList.drop ((q4 + 1) + es[i].enc.length) = encL 5 (i + 1) ns (es.drop (i + 1)) ++ cl :: r := by rw [← List.drop_drop, Hq'.out, List.drop_left]
      rw [← hw9] at H8 ⊢
      rw [htk] at H8
      obtain ⟨q9, hq9⟩ : ∃ x, x = (q4 + 1) + es[i].enc.length := ⟨_, rfl⟩
      rw [← hq9] at hrest H8
      have Hq9 := Lib.hid hq9
      have Hd9 : Hid ((q4 + 1) ≤ q9 ∧ (q4 + 1) < q9) := Lib.hid (by
       obtain ⟨x, y, hx, _⟩ := enc_head es[i]
       have hx' := congrArg List.length hx
       rw [List.length_cons] at hx'
       omega)
      clear hw9 htk hq9
      by_cases hl : i + 1 < es.length
      · rw [encL_first 5 ns es (i + 1) hl, if_pos (by omega)] at hrest
        have Hrs := Lib.hid hrest
        clear hrest
        go_wp2_with fail
        refine (skip_no db s q9 44 _ w9 H8.out.ds hs Hrs.out (by decide)).mono ?_
        rintro e w10 ⟨rfl, hd10, hc10⟩
        have H10 := Lib.hid (H8.out.db hc10 hd10)
        clear hd10 hc10
        go_wp2_with fail
        refine (accept_one db s q9 44 cl _ w10 H10.out.ds hs Hrs.out).mono ?_
        rintro e w11 ⟨rfl, hd11, hc11⟩
        rw [Hcls.out.2] at hd11 ⊢
        have H11 := Lib.hid (H10.out.db hc11 hd11)
        clear hd11 hc11
        simp only [Bool.false_eq_true, if_false] at H11
        go_wp2_with fail
        refine (accept_one db s q9 44 44 _ w11 H11.out.ds hs Hrs.out).mono ?_
        rintro e w12 ⟨rfl, hd12, hc12⟩
        have H12 := Lib.hid (H11.out.db hc12 hd12)
        clear hd12 hc12
        simp only [beq_self_eq_true, if_true] at H12 ⊢
        go_wp2_with fail
        refine (He.out w12).mono ?_
        rintro e w13 ⟨rfl, rfl⟩
        go_wp2_with fail
        refine ⟨⟨i + 1, q9 + 1, a7, (i + 1), c7, a8, i + 1, c8, hl, H12, Lib.hid fun _ => ?_⟩, ?_⟩
        · rw [← List.drop_drop, Hrs.out]
          rfl
        · rw [H12.out.ds.off, HR.out.ds.off]
          have h1 := (peek_cons Hh.out.1).2.1
          have h2 := Hd9.out.1
          have h3 : q ≤ (q4 + 1) := Hqq.out
          omega
      · rw [encL_last 5 ns es (i + 1) (by omega)] at hrest
        have Hrs := Lib.hid hrest
        clear hrest
        go_wp2_with fail
        refine (skip_no db s q9 cl r w9 H8.out.ds hs Hrs.out Hcls.out.1).mono ?_
        rintro e w10 ⟨rfl, hd10, hc10⟩
        have H10 := Lib.hid (H8.out.db hc10 hd10)
        clear hd10 hc10
        go_wp2_with fail
        refine (accept_one db s q9 cl cl r w10 H10.out.ds hs Hrs.out).mono ?_
        rintro e w11 ⟨rfl, hd11, hc11⟩
        have H11 := Lib.hid (H10.out.db hc11 hd11)
        clear hd11 hc11
        simp only [beq_self_eq_true, if_true] at H11 ⊢
        have k3 := cell_of_heap H11.out.box (i := 3) rfl
        have hfin : ns.take (i + 1) = ns ∧ es.take (i + 1) = es ∧ ns.Nodup := by
         refine ⟨?_, List.take_of_length_le (by omega), ?_⟩
         · rcases Hk.out with h | h
           · rw [h.2.2]; simp
           · exact List.take_of_length_le (by omega)
         · rcases Hk.out with h | h
           · rw [h.2.2]; exact List.nodup_nil
           · exact h.2.2.2
        obtain ⟨hf1, hf2, hf3⟩ := hfin
        rw [hf1, hf2] at H11
        have Hf3 := Lib.hid hf3
        clear hf1 hf2 hf3
        go_wp2_with fail
        refine (dups_any (fun _ => True) w11 _ ns (H11.out.nms.read fun g hg => trivial)).mono ?_
        rintro e w12 ⟨rfl, hc12⟩
        have H12 := Lib.hid (H11.out.db (hc12.mono (by simp)) (H11.out.ds.new hc12))
        have hx := Hf3.out
        simp only [hx, not_true_eq_false, decide_false]
        clear hc12 hx k3
        go_wp2_with fail
        refine (He.out w12).mono ?_
        rintro e w13 ⟨rfl, rfl⟩
        obtain ⟨b0, b1, b2, b3, b4⟩ := box_kept (b + 1) H12.out.box (Chg.refl [] w13)
        obtain ⟨r0, r1, r2, r3, r4⟩ := box_kept b H12.out.res (Chg.refl [] w13)
        have fr := fun i => frozen_of_heap (i := i) H12.out.res
        have lr := lt_of_cell r0
        go_wp2_with fail
        refine bodyPost_ret (v := .agg #[.int .i64 5, .int .i64 0, .string ⟨#[]⟩, .slice a7 (i + 1) c7, .slice a8 (i + 1) c8]) (by simp [results, Tryz.results134, go_sem, r0, r1, r2, r3, r4]) rfl ?_
        have hD := H12.out.done
        have hq : q9 = o + (encL 5 0 ns es).length := by
         have h1 := congrArg List.length Hrs.out
         have h2 := congrArg List.length Hr.out
         have h3 := (peek_cons Hrs.out).2.1
         have h4 : s.data.toList.length = s.size := rfl
         rw [List.length_drop] at h1 h2
         simp only [List.length_append, List.length_cons] at h1 h2
         omega
        rw [← hq]
        exact ⟨_, rfl, hD.1, hD.2.1, hD.2.2⟩
    · have hk4 : kd = 4 := by
       rcases Hk'.out with h | h
       · exact h.1
       · exact absurd h.1 hk5
      subst hk4
      have Hn : Hid (nmL 4 ns i = [] ∧ ns.take (i + 1) = ns.take i) := Lib.hid ⟨rfl, by
       rcases Hk.out with h | h
       · rw [h.2.2]; simp
       · exact absurd h.1 (by decide)⟩
      have H5' : Hid (EL db b f q s 4 (.slice na nl nc) (.slice ia il ic) (ns.take (i + 1)) (es.take i) w w5) := Lib.hid (by rw [Hn.out.2]; exact H5.out)
      have Hq' : Hid (s.data.toList.drop q = es[i].enc ++ (encL 4 (i + 1) ns (es.drop (i + 1)) ++ cl :: r)) := Lib.hid (by rw [Hq.out, Hn.out.1]; rfl)
      have Hqq : Hid (q ≤ q) := Lib.hid (Nat.le_refl _)
      clear hk5
      go_upto_region 10 with fail
      refine wp_region_U (fun w' => w'.cell? ⟨b + 1, 4, none⟩ = some (.slice ia il ic)) (fun _ => True) 7 (by kernel_rfl) ?_
      intro wd hwd
      have hcd : Chg [] w5 wd := by rw [hwd]; exact (Chg.refl _ _).drew
      have Hcd := Lib.hid hcd
      have Hd := Lib.hid (H5'.out.db (hcd.mono (by simp)) (H5'.out.ds.new hcd))
      have hSW := cell_of_heap Hd.out.box (i := 4) rfl
      clear hwd hcd
      refine anyU_pure (i := 0) (v := .pointer (some ⟨b + 1, 4, none⟩)) rfl (by kernel_rfl) (fun _ _ _ h => h) (Or.inl ⟨by rfl, fun w' hS => by go_simp⟩) (fun _ => hSW) trivial ?_
      simp only [Act.put, setIfInBounds_toArray, set_cons_zero, set_cons_succ]
      refine anyU_take (i := 1) (v := .slice ia il ic) rfl (by kernel_rfl) (fun _ _ _ h => h) (Or.inl ⟨by rfl, fun w' hS => by go_simp⟩) hSW trivial ?_
      simp only [Act.put, setIfInBounds_toArray, set_cons_zero, set_cons_succ]
      refine anyU_pure (i := 2) (v := .pointer (some ⟨db, 0, none⟩)) rfl (by kernel_rfl) (fun _ _ _ h => h) (Or.inl ⟨by rfl, fun w' hS => by go_simp⟩) (fun _ => hSW) trivial ?_
      simp only [Act.put, setIfInBounds_toArray, set_cons_zero, set_cons_succ]
      refine anyU_one (k := 3) (by kernel_rfl) rfl (fun K hK => ?_)
      go_simp
      refine (hV _ (List.getElem_mem hi) wd _ _ Hd.out.ds (tb_db HT.out hTd Hd.out.chg) Hq'.out Hrst.out).mono ?_
      rintro e w6 ⟨v6, rfl, hv6, hd6, hc6⟩
      obtain ⟨e6, rfl⟩ := hv6.ev'
      have H6 := Lib.hid (Hd.out.db hc6 hd6)
      have H6v := Lib.hid (And.intro hv6 (And.intro hd6 hc6))
      clear hv6 hd6 hc6
      have hS6 := cell_of_heap H6.out.box (i := 4) rfl
      clear hSW
      refine hK _ _ (fun _ => hS6) trivial ?_
      clear hK K
      unfold Ev.val
      refine anyU_one (k := 4) (by kernel_rfl) rfl (fun K hK => ?_)
      go_simp
      obtain ⟨a8, c8, w8, hr8, hbx8, h8⟩ := Hd.out.elem H6v.out.2.2 H6v.out.2.1 H6v.out.1 (by rw [List.length_take]; omega)
      have hl9 : (es.take i).length = i := by rw [List.length_take]; omega
      rw [hl9] at hr8 h8
      have Hr8 := Lib.hid hr8
      have Hbx8 := Lib.hid hbx8
      have H8 := Lib.hid h8
      have H7 := Lib.hid ((heap_past w6 (.cells #[.int .i64 e6.k, .int .i64 e6.n, .string e6.t, .slice e6.na e6.nl e6.nc, .slice e6.ia e6.il e6.ic] 59) _ (lt_of_obj H6.out.box)).trans H6.out.box)
      clear hr8 hbx8 h8 hl9
      have hS7 := cell_of_heap H7.out (i := 4) rfl
      refine hK _ _ (fun _ => hS7) trivial ?_
      clear hK K
      refine anyU_one (k := 5) (by kernel_rfl) rfl (fun K hK => ?_)
      rw [if_pos (by rfl)]
      refine wp_append_run _ _ 57 rfl _ _ _ _ rfl rfl Hr8.out ?_
      have hS8 := cell_of_heap Hbx8.out (i := 4) rfl
      have f8 := frozen_of_heap (i := 4) Hbx8.out
      clear hS6 hS7
      refine hK _ _ (fun _ => hS8) trivial ?_
      clear hK K
      simp only [Act.put, setIfInBounds_toArray, set_cons_zero, set_cons_succ]
      refine anyU_one (k := 6) (by kernel_rfl) rfl (fun K hK => ?_)
      go_simp
      refine hK _ _ (fun _ => hS8) trivial ?_
      clear hK K
      refine anyU_one (k := 7) (by kernel_rfl) rfl (fun K hK => ?_)
      go_simp
      refine hK _ _ (fun h => by simp at h) trivial ?_
      clear hK K hS8 f8
      refine anyU_done (by kernel_rfl) ?_
      obtain ⟨w9, hw9⟩ : ∃ x, x = w8.setCell ⟨b + 1, 4, none⟩ (.slice a8 (i + 1) c8) := ⟨_, rfl⟩
      have htk : es.take i ++ [es[i]] = es.take (i + 1) := by rw [List.take_add_one, List.getElem?_eq_getElem hi]; rfl
      have hrest : s.data.toList.drop (q + es[i].enc.length) = encL 4 (i + 1) ns (es.drop (i + 1)) ++ cl :: r := by rw [← List.drop_drop, Hq'.out, List.drop_left]
      rw [← hw9] at H8 ⊢
      rw [htk] at H8
      obtain ⟨q9, hq9⟩ : ∃ x, x = q + es[i].enc.length := ⟨_, rfl⟩
      rw [← hq9] at hrest H8
      have Hq9 := Lib.hid hq9
      have Hd9 : Hid (q ≤ q9 ∧ q < q9) := Lib.hid (by
       obtain ⟨x, y, hx, _⟩ := enc_head es[i]
       have hx' := congrArg List.length hx
       rw [List.length_cons] at hx'
       omega)
      clear hw9 htk hq9
      by_cases hl : i + 1 < es.length
      · rw [encL_first 4 ns es (i + 1) hl, if_pos (by omega)] at hrest
        have Hrs := Lib.hid hrest
        clear hrest
        go_wp2_with fail
        refine (skip_no db s q9 44 _ w9 H8.out.ds hs Hrs.out (by decide)).mono ?_
        rintro e w10 ⟨rfl, hd10, hc10⟩
        have H10 := Lib.hid (H8.out.db hc10 hd10)
        clear hd10 hc10
        go_wp2_with fail
        refine (accept_one db s q9 44 cl _ w10 H10.out.ds hs Hrs.out).mono ?_
        rintro e w11 ⟨rfl, hd11, hc11⟩
        rw [Hcls.out.2] at hd11 ⊢
        have H11 := Lib.hid (H10.out.db hc11 hd11)
        clear hd11 hc11
        simp only [Bool.false_eq_true, if_false] at H11
        go_wp2_with fail
        refine (accept_one db s q9 44 44 _ w11 H11.out.ds hs Hrs.out).mono ?_
        rintro e w12 ⟨rfl, hd12, hc12⟩
        have H12 := Lib.hid (H11.out.db hc12 hd12)
        clear hd12 hc12
        simp only [beq_self_eq_true, if_true] at H12 ⊢
        go_wp2_with fail
        refine (He.out w12).mono ?_
        rintro e w13 ⟨rfl, rfl⟩
        go_wp2_with fail
        refine ⟨⟨i + 1, q9 + 1, na, nl, nc, a8, i + 1, c8, hl, H12, Lib.hid fun _ => ?_⟩, ?_⟩
        · rw [← List.drop_drop, Hrs.out]
          rfl
        · rw [H12.out.ds.off, HR.out.ds.off]
          have h1 := (peek_cons Hh.out.1).2.1
          have h2 := Hd9.out.1
          have h3 : q ≤ q := Hqq.out
          omega
      · rw [encL_last 4 ns es (i + 1) (by omega)] at hrest
        have Hrs := Lib.hid hrest
        clear hrest
        go_wp2_with fail
        refine (skip_no db s q9 cl r w9 H8.out.ds hs Hrs.out Hcls.out.1).mono ?_
        rintro e w10 ⟨rfl, hd10, hc10⟩
        have H10 := Lib.hid (H8.out.db hc10 hd10)
        clear hd10 hc10
        go_wp2_with fail
        refine (accept_one db s q9 cl cl r w10 H10.out.ds hs Hrs.out).mono ?_
        rintro e w11 ⟨rfl, hd11, hc11⟩
        have H11 := Lib.hid (H10.out.db hc11 hd11)
        clear hd11 hc11
        simp only [beq_self_eq_true, if_true] at H11 ⊢
        have k3 := cell_of_heap H11.out.box (i := 3) rfl
        have hfin : ns.take (i + 1) = ns ∧ es.take (i + 1) = es ∧ ns.Nodup := by
         refine ⟨?_, List.take_of_length_le (by omega), ?_⟩
         · rcases Hk.out with h | h
           · rw [h.2.2]; simp
           · exact List.take_of_length_le (by omega)
         · rcases Hk.out with h | h
           · rw [h.2.2]; exact List.nodup_nil
           · exact h.2.2.2
        obtain ⟨hf1, hf2, hf3⟩ := hfin
        rw [hf1, hf2] at H11
        have Hf3 := Lib.hid hf3
        clear hf1 hf2 hf3
        go_wp2_with fail
        refine (dups_any (fun _ => True) w11 _ ns (H11.out.nms.read fun g hg => trivial)).mono ?_
        rintro e w12 ⟨rfl, hc12⟩
        have H12 := Lib.hid (H11.out.db (hc12.mono (by simp)) (H11.out.ds.new hc12))
        have hx := Hf3.out
        simp only [hx, not_true_eq_false, decide_false]
        clear hc12 hx k3
        go_wp2_with fail
        refine (He.out w12).mono ?_
        rintro e w13 ⟨rfl, rfl⟩
        obtain ⟨b0, b1, b2, b3, b4⟩ := box_kept (b + 1) H12.out.box (Chg.refl [] w13)
        obtain ⟨r0, r1, r2, r3, r4⟩ := box_kept b H12.out.res (Chg.refl [] w13)
        have fr := fun i => frozen_of_heap (i := i) H12.out.res
        have lr := lt_of_cell r0
        go_wp2_with fail
        refine bodyPost_ret (v := .agg #[.int .i64 4, .int .i64 0, .string ⟨#[]⟩, .slice na nl nc, .slice a8 (i + 1) c8]) (by simp [results, Tryz.results134, go_sem, r0, r1, r2, r3, r4]) rfl ?_
        have hD := H12.out.done
        have hq : q9 = o + (encL 4 0 ns es).length := by
         have h1 := congrArg List.length Hrs.out
         have h2 := congrArg List.length Hr.out
         have h3 := (peek_cons Hrs.out).2.1
         have h4 : s.data.toList.length = s.size := rfl
         rw [List.length_drop] at h1 h2
         simp only [List.length_append, List.length_cons] at h1 h2
         omega
        rw [← hq]
        exact ⟨_, rfl, hD.1, hD.2.1, hD.2.2⟩
theorem skip_to (db : Nat) (s : ByteArray) (o0 o : Nat) (c : UInt8) (l : List UInt8) (w : World) (h : DS w db s o0) (hs : s.size ≤ 100000) (h0 : o0 ≤ s.size) (hk : skip (s.data.toList.drop o0) = s.data.toList.drop o) (hd : s.data.toList.drop o = c :: l) :
 Calls Tryz.prog 83 #[.pointer (some ⟨db, 0, none⟩)] w fun e w' => e = .returned (.tuple #[]) ∧ DS w' db s o ∧ Chg [db] w w' := by
 have hp := (peek_cons hd).2.1
 refine (skip_any db s o0 w h h0 hs).mono ?_
 rintro e w' ⟨rfl, o', h1, h2, h3, h4, h5⟩
 rw [hk] at h4
 have h6 := congrArg List.length h4
 rw [List.length_drop, List.length_drop] at h6
 have h7 : s.data.toList.length = s.size := rfl
 obtain rfl : o' = o := by omega
 exact ⟨rfl, h3, h5⟩
theorem accept_not (db : Nat) (s tok : ByteArray) (o : Nat) (c t0 : UInt8) (l tl : List UInt8) (w : World) (h : DS w db s o) (hs : s.size ≤ 100000) (hd : s.data.toList.drop o = c :: l) (ht : tok.data.toList = t0 :: tl) (hz : tok.size ≤ 100) (hne : (t0 == c) = false) :
 Calls Tryz.prog 131 #[.pointer (some ⟨db, 0, none⟩), .string tok] w fun e w' => e = .returned (.bool false) ∧ DS w' db s o ∧ Chg [db] w w' := by
 have hp := (peek_cons hd).2.1
 refine (accept_any db s tok o w h (by omega) hs hz).mono ?_
 rw [hd, ht, show Lib.hasPrefix (c :: l) (t0 :: tl) = false by simp [Lib.hasPrefix, List.isPrefixOf, hne]]
 exact fun e w' h => h
theorem accept_yes (db : Nat) (s tok : ByteArray) (o : Nat) (l : List UInt8) (w : World) (h : DS w db s o) (hs : s.size ≤ 100000) (hd : s.data.toList.drop o = tok.data.toList ++ l) (hz : tok.size ≤ 100) (ho : o ≤ s.size) :
 Calls Tryz.prog 131 #[.pointer (some ⟨db, 0, none⟩), .string tok] w fun e w' => e = .returned (.bool true) ∧ DS w' db s (o + tok.size) ∧ Chg [db] w w' := by
 refine (accept_any db s tok o w h ho hs hz).mono ?_
 rw [hd, show Lib.hasPrefix (tok.data.toList ++ l) tok.data.toList = true by simp [Lib.hasPrefix, List.isPrefixOf_iff_prefix]]
 exact fun e w' h => h
structure VS (db b o : Nat) (s : ByteArray) (w wr : World) : Prop where
 ds : DS wr db s o
 res : wr.heap[b]? = some (.cells #[.int .i64 0, .int .i64 0, .string ⟨#[]⟩, .slice none 0 0, .slice none 0 0] 59 (0, 0))
 chg : Chg [db] w wr
 hb : b = w.heap.size
 hdb : db < b
theorem VS.db {db b o o' : Nat} {s : ByteArray} {w wr w' : World} (h : VS db b o s w wr) (hc : Chg [db] wr w') (hd : DS w' db s o') : VS db b o' s w w' :=
 ⟨hd, (hc.block b (lt_of_obj h.res) (by have := h.hdb; simp; omega)).trans h.res, h.chg.trans hc, h.hb, h.hdb⟩
theorem VS.done {db b o f : Nat} {s : ByteArray} {w wr : World} {e : Ev} {j : J} (h : VS db b o s w wr) (hv : JN (b + 1) f wr e.val j) : JN w.heap.size f (st5 wr b 0 e) e.val j ∧ DS (st5 wr b 0 e) db s o ∧ Chg [db] w (st5 wr b 0 e) := by
 have hcs := st5_chg wr b 0 e
 have hb := h.hb
 have hdb := h.hdb
 refine ⟨?_, (hcs.block db (lt_of_obj h.ds) (by simp; omega)).trans h.ds, h.chg.comp hcs fun g hg => Or.inr (by rw [List.mem_singleton.1 hg]; omega)⟩
 exact (hv.kept hcs.toP fun g hg hm => by have := List.mem_singleton.1 hm; have := hg.1; omega).imp fun g hg => ⟨by have := hg.1; omega, Nat.lt_of_lt_of_le hg.2 hcs.size⟩
def VPost (db : Nat) (s : ByteArray) (o f : Nat) (j : J) (w : World) (e : Ending) (w' : World) : Prop := ∃ v', e = .returned v' ∧ JN w.heap.size f w' v' j ∧ DS w' db s o ∧ Chg [db] w w'
theorem JN.leaf {B f : Nat} {w : World} {k n : Int} {t : ByteArray} (ht : t.size ≤ maxLen) : JN B f w (Ev.val ⟨k, n, t, none, 0, 0, none, 0, 0⟩) (.mk k n t [] []) := JN.mk (SlR.nil _ _ _ _) (SlR.nil _ _ _ _) ht
structure Nw (c : UInt8) : Prop where
 N_null : ((110 : UInt8) == c) = false
 N_true : ((116 : UInt8) == c) = false
 N_false : ((102 : UInt8) == c) = false
set_option maxRecDepth 100000 in
set_option maxHeartbeats 8000000 in
theorem val_null (db f : Nat) (s : ByteArray) (hs : s.size ≤ 100000) (w : World) (o0 o : Nat) (r : List UInt8) (h : DS w db s o0) (hsk : o0 ≤ s.size ∧ skip (s.data.toList.drop o0) = s.data.toList.drop o) (hr : s.data.toList.drop o = [110, 117, 108, 108] ++ r) :
 Calls Tryz.prog 82 #[.pointer (some ⟨db, 0, none⟩)] w (VPost db s (o + 4) f J.zero w) := by
 obtain ⟨c, l, hc, hcc⟩ : ∃ c l, s.data.toList.drop o = c :: l ∧ c = 110 := ⟨_, _, hr, rfl⟩
 have hsp : True := trivial
 have hol := (peek_cons hc).2.1
 obtain ⟨b, hb⟩ : ∃ b, b = w.heap.size := ⟨_, rfl⟩
 obtain ⟨w1, hw1⟩ : ∃ x, x = w.alloc (.cells #[.int .i64 0, .int .i64 0, .string ⟨#[]⟩, .slice none 0 0, .slice none 0 0] 59) := ⟨_, rfl⟩
 have hc1 : Chg [] w w1 := by rw [hw1]; exact (Chg.refl [] w).alloc _
 have hdb := lt_of_obj h
 have Hsk := Lib.hid hsk
 have H1 : Hid (VS db b o0 s w w1) := Lib.hid ⟨h.new hc1, by rw [hw1, hb]; exact heap_at _ _ _ rfl, hc1.mono (by simp), hb, by omega⟩
 have Hc := Lib.hid hc
 have Hy : Hid (s.data.toList.drop o = (ByteArray.mk #[110, 117, 108, 108]).data.toList ++ r) := Lib.hid hr
 have hcd := Lib.hid hcc
 clear h hc1 hc hdb hsk hsp hr hcc
 go_enter Tryz.func82, Tryz.ntmps82
 go_upto_region 1 with fail
 rw [← hw1, ← hb]
 clear hw1 hb
 go_wp2_with fail
 refine (skip_to db s o0 o c l w1 H1.out.ds hs Hsk.out.1 Hsk.out.2 Hc.out).mono ?_
 rintro e w2 ⟨rfl, hd2, hc2⟩
 have H2 := Lib.hid (H1.out.db hc2 hd2)
 clear hd2 hc2
 go_wp2_with fail
 refine (accept_yes db s ⟨#[110, 117, 108, 108]⟩ o _ w2 H2.out.ds hs Hy.out (by decide) (by omega)).mono ?_
 rintro e vy ⟨rfl, hdx, hcx⟩
 have Vy := Lib.hid (H2.out.db hcx hdx)
 clear hdx hcx
 obtain ⟨r0, r1, r2, r3, r4⟩ := box_kept b Vy.out.res (Chg.refl [] vy)
 have fr := fun i => frozen_of_heap (i := i) Vy.out.res
 have lr := lt_of_cell r0
 go_wp2_with fail
 refine bodyPost_ret (v := Ev.val ⟨0, 0, ⟨#[]⟩, none, 0, 0, none, 0, 0⟩) (by unfold Ev.val; simp [results, Tryz.results82, go_sem, r0, r1, r2, r3, r4]) rfl ?_
 have hD := Vy.out.done (f := f) (e := ⟨0, 0, ⟨#[]⟩, none, 0, 0, none, 0, 0⟩) (JN.leaf (by decide))
 exact ⟨_, rfl, hD.1, hD.2.1, hD.2.2⟩
set_option maxRecDepth 100000 in
set_option maxHeartbeats 8000000 in
theorem val_text (db f : Nat) (s t : ByteArray) (hs : s.size ≤ 100000) (hTd : Tryz.laysValid_ren.g 3 ≠ db ∧ Tryz.laysValid_ren.g 4 ≠ db) (hu : u8 t = true ∧ plT t = true) (w : World) (o0 o : Nat) (r : List UInt8) (h : DS w db s o0) (hsk : o0 ≤ s.size ∧ skip (s.data.toList.drop o0) = s.data.toList.drop o) (hT : Tb w) (hr : s.data.toList.drop o = encS t ++ r) :
 Calls Tryz.prog 82 #[.pointer (some ⟨db, 0, none⟩)] w (VPost db s (o + (encS t).length) f (.mk 3 0 t [] []) w) := by
 obtain ⟨c, l, hc, hcc⟩ : ∃ c l, s.data.toList.drop o = c :: l ∧ c = 34 := ⟨_, _, hr, rfl⟩
 have hsp : True := trivial
 have hts : t.size ≤ maxLen := by
  have h1 := congrArg List.length hr
  have h2 := encS_len t
  have h4 : s.data.toList.length = s.size := rfl
  rw [List.length_drop, List.length_append] at h1
  unfold maxLen
  omega
 have hol := (peek_cons hc).2.1
 obtain ⟨b, hb⟩ : ∃ b, b = w.heap.size := ⟨_, rfl⟩
 obtain ⟨w1, hw1⟩ : ∃ x, x = w.alloc (.cells #[.int .i64 0, .int .i64 0, .string ⟨#[]⟩, .slice none 0 0, .slice none 0 0] 59) := ⟨_, rfl⟩
 have hc1 : Chg [] w w1 := by rw [hw1]; exact (Chg.refl [] w).alloc _
 have hdb := lt_of_obj h
 have Hsk := Lib.hid hsk
 have H1 : Hid (VS db b o0 s w w1) := Lib.hid ⟨h.new hc1, by rw [hw1, hb]; exact heap_at _ _ _ rfl, hc1.mono (by simp), hb, by omega⟩
 have Hc := Lib.hid hc
 have Hr := Lib.hid hr
 have HT := Lib.hid hT
 have Hts := Lib.hid hts
 have Hne : Hid (Nw c) := Lib.hid (by rw [hcc]; exact ⟨by decide, by decide, by decide⟩)
 have Hpk : Hid (peekL (s.data.toList.drop o) = 34) := Lib.hid (by rw [hc, hcc]; rfl)
 clear h hc1 hc hdb hsk hsp hr hT hts hcc
 go_enter Tryz.func82, Tryz.ntmps82
 go_upto_region 1 with fail
 rw [← hw1, ← hb]
 clear hw1 hb
 go_wp2_with fail
 refine (skip_to db s o0 o c l w1 H1.out.ds hs Hsk.out.1 Hsk.out.2 Hc.out).mono ?_
 rintro e w2 ⟨rfl, hd2, hc2⟩
 have H2 := Lib.hid (H1.out.db hc2 hd2)
 clear hd2 hc2
 go_wp2_with fail
 refine (accept_not db s ⟨#[110, 117, 108, 108]⟩ o c 110 l _ w2 H2.out.ds hs Hc.out rfl (by decide) (Hne.out.N_null)).mono ?_
 rintro e v0 ⟨rfl, hdx, hcx⟩
 have V0 := Lib.hid (H2.out.db hcx hdx)
 clear hdx hcx
 go_wp2_with fail
 refine (accept_not db s ⟨#[116, 114, 117, 101]⟩ o c 116 l _ v0 V0.out.ds hs Hc.out rfl (by decide) (Hne.out.N_true)).mono ?_
 rintro e v1 ⟨rfl, hdx, hcx⟩
 have V1 := Lib.hid (V0.out.db hcx hdx)
 clear hdx hcx
 go_wp2_with fail
 refine (accept_not db s ⟨#[102, 97, 108, 115, 101]⟩ o c 102 l _ v1 V1.out.ds hs Hc.out rfl (by decide) (Hne.out.N_false)).mono ?_
 rintro e v2 ⟨rfl, hdx, hcx⟩
 have V2 := Lib.hid (V1.out.db hcx hdx)
 clear hdx hcx
 go_wp2_with fail
 refine (peek_any db s o v2 V2.out.ds hs).mono ?_
 rintro e vp ⟨rfl, hcp⟩
 have Vp := Lib.hid (V2.out.db (hcp.mono (by simp)) (V2.out.ds.new hcp))
 clear hcp
 rw [Hpk.out]
 go_wp2_with fail
 refine (text_yes db s t o r vp Vp.out.ds hs Hr.out (tb_db HT.out hTd Vp.out.chg) hTd hu).mono ?_
 rintro e vy ⟨rfl, hdx, hcx⟩
 have Vy := Lib.hid (Vp.out.db hcx hdx)
 clear hdx hcx
 obtain ⟨r0, r1, r2, r3, r4⟩ := box_kept b Vy.out.res (Chg.refl [] vy)
 have fr := fun i => frozen_of_heap (i := i) Vy.out.res
 have lr := lt_of_cell r0
 go_wp2_with fail
 refine bodyPost_ret (v := Ev.val ⟨3, 0, t, none, 0, 0, none, 0, 0⟩) (by unfold Ev.val; simp [results, Tryz.results82, go_sem, r0, r1, r2, r3, r4]) rfl ?_
 have hD := Vy.out.done (f := f) (e := ⟨3, 0, t, none, 0, 0, none, 0, 0⟩) (JN.leaf Hts.out)
 exact ⟨_, rfl, hD.1, hD.2.1, hD.2.2⟩
set_option maxRecDepth 100000 in
set_option maxHeartbeats 8000000 in
theorem val_obj (db f : Nat) (s : ByteArray) (hs : s.size ≤ 100000) (ns : List ByteArray) (es : List J) (hk : ns.length = es.length ∧ ns.Nodup) (hu : ∀ t ∈ ns, u8 t = true ∧ plT t = true) (hle : es.length ≤ 400) (hV : ∀ e ∈ es, VOk db s f e)
 (hTd : Tryz.laysValid_ren.g 3 ≠ db ∧ Tryz.laysValid_ren.g 4 ≠ db) (w : World) (o0 o : Nat) (r : List UInt8) (h : DS w db s o0) (hsk : o0 ≤ s.size ∧ skip (s.data.toList.drop o0) = s.data.toList.drop o) (hT : Tb w) (hr : s.data.toList.drop o = 123 :: (encL 5 0 ns es ++ 125 :: r)) :
 Calls Tryz.prog 82 #[.pointer (some ⟨db, 0, none⟩)] w (VPost db s (o + 1 + (encL 5 0 ns es).length + 1) (f + 1) (.mk 5 0 ⟨#[]⟩ ns es) w) := by
 obtain ⟨c, l, hc, hcc⟩ : ∃ c l, s.data.toList.drop o = c :: l ∧ c = 123 := ⟨_, _, hr, rfl⟩
 have hsp : True := trivial
 have hol := (peek_cons hc).2.1
 obtain ⟨b, hb⟩ : ∃ b, b = w.heap.size := ⟨_, rfl⟩
 obtain ⟨w1, hw1⟩ : ∃ x, x = w.alloc (.cells #[.int .i64 0, .int .i64 0, .string ⟨#[]⟩, .slice none 0 0, .slice none 0 0] 59) := ⟨_, rfl⟩
 have hc1 : Chg [] w w1 := by rw [hw1]; exact (Chg.refl [] w).alloc _
 have hdb := lt_of_obj h
 have Hsk := Lib.hid hsk
 have H1 : Hid (VS db b o0 s w w1) := Lib.hid ⟨h.new hc1, by rw [hw1, hb]; exact heap_at _ _ _ rfl, hc1.mono (by simp), hb, by omega⟩
 have Hc := Lib.hid hc
 have Hy : Hid (s.data.toList.drop o = (ByteArray.mk #[123]).data.toList ++ (encL 5 0 ns es ++ 125 :: r)) := Lib.hid hr
 have Hr : Hid (s.data.toList.drop (o + 1) = encL 5 0 ns es ++ 125 :: r) := Lib.hid (by rw [← List.drop_drop, hr]; rfl)
 have HT := Lib.hid hT
 have Hk := Lib.hid hk
 have Hne : Hid (Nw c) := Lib.hid (by rw [hcc]; exact ⟨by decide, by decide, by decide⟩)
 have Hcc := Lib.hid hcc
 have Hpk : Hid (peekL (s.data.toList.drop o) = 123) := Lib.hid (by rw [hc, hcc]; rfl)
 clear h hc1 hc hdb hsk hsp hr hT hcc hk
 go_enter Tryz.func82, Tryz.ntmps82
 go_upto_region 1 with fail
 rw [← hw1, ← hb]
 clear hw1 hb
 go_wp2_with fail
 refine (skip_to db s o0 o c l w1 H1.out.ds hs Hsk.out.1 Hsk.out.2 Hc.out).mono ?_
 rintro e w2 ⟨rfl, hd2, hc2⟩
 have H2 := Lib.hid (H1.out.db hc2 hd2)
 clear hd2 hc2
 go_wp2_with fail
 refine (accept_not db s ⟨#[110, 117, 108, 108]⟩ o c 110 l _ w2 H2.out.ds hs Hc.out rfl (by decide) (Hne.out.N_null)).mono ?_
 rintro e v0 ⟨rfl, hdx, hcx⟩
 have V0 := Lib.hid (H2.out.db hcx hdx)
 clear hdx hcx
 go_wp2_with fail
 refine (accept_not db s ⟨#[116, 114, 117, 101]⟩ o c 116 l _ v0 V0.out.ds hs Hc.out rfl (by decide) (Hne.out.N_true)).mono ?_
 rintro e v1 ⟨rfl, hdx, hcx⟩
 have V1 := Lib.hid (V0.out.db hcx hdx)
 clear hdx hcx
 go_wp2_with fail
 refine (accept_not db s ⟨#[102, 97, 108, 115, 101]⟩ o c 102 l _ v1 V1.out.ds hs Hc.out rfl (by decide) (Hne.out.N_false)).mono ?_
 rintro e v2 ⟨rfl, hdx, hcx⟩
 have V2 := Lib.hid (V1.out.db hcx hdx)
 clear hdx hcx
 go_wp2_with fail
 refine (peek_any db s o v2 V2.out.ds hs).mono ?_
 rintro e vp ⟨rfl, hcp⟩
 have Vp := Lib.hid (V2.out.db (hcp.mono (by simp)) (V2.out.ds.new hcp))
 clear hcp
 rw [Hpk.out]
 go_wp2_with fail
 refine (accept_not db s ⟨#[91]⟩ o c 91 l _ vp Vp.out.ds hs Hc.out rfl (by decide) (by rw [Hcc.out]; decide)).mono ?_
 rintro e va ⟨rfl, hdx, hcx⟩
 have Va := Lib.hid (Vp.out.db hcx hdx)
 clear hdx hcx
 go_wp2_with fail
 refine (accept_yes db s ⟨#[123]⟩ o _ va Va.out.ds hs Hy.out (by decide) (by omega)).mono ?_
 rintro e vb ⟨rfl, hdx, hcx⟩
 have Vb := Lib.hid (Va.out.db hcx hdx)
 clear hdx hcx
 go_wp2_with fail
 refine (elements_yes db f s hs 5 125 ns es (Or.inr ⟨rfl, rfl, Hk.out.1, Hk.out.2⟩) hu hle hV hTd vb (o + 1) r Vb.out.ds (tb_db HT.out hTd Vb.out.chg) Hr.out).mono ?_
 rintro e vy ⟨v', rfl, hv, hdx, hcx⟩
 obtain ⟨ev, rfl⟩ := hv.ev'
 have Vy := Lib.hid (Vb.out.db hcx hdx)
 have Hv := Lib.hid (hv.base (B' := b + 1) (lt_of_obj Vb.out.res))
 clear hv hdx hcx
 unfold Ev.val
 obtain ⟨r0, r1, r2, r3, r4⟩ := box_kept b Vy.out.res (Chg.refl [] vy)
 have fr := fun i => frozen_of_heap (i := i) Vy.out.res
 have lr := lt_of_cell r0
 go_wp2_with fail
 refine bodyPost_ret (v := Ev.val ev) (by unfold Ev.val; simp [results, Tryz.results82, go_sem, r0, r1, r2, r3, r4]) rfl ?_
 have hD := Vy.out.done (f := f + 1) (e := ev) Hv.out
 exact ⟨_, rfl, hD.1, hD.2.1, hD.2.2⟩
theorem wf_parts {u : ByteArray → Bool} {k n : Int} {t : ByteArray} {ns : List ByteArray} {len : Nat} (h : wf u k n t ns len = true) :
 ((if k = 2 then -9007199254740991 else 0) ≤ n ∧ n ≤ (if k = 1 then 1 else if k = 2 then 9007199254740991 else 0)) ∧ (t ≠ ⟨#[]⟩ → k = 3) ∧ (0 < len → k = 4 ∨ k = 5) ∧ (k = 5 → ns.length = len ∧ ns.Nodup) ∧ (k ≠ 5 → ns = []) ∧ u t = true ∧ ∀ s ∈ ns, u s = true := by
 unfold wf at h
 simp only [Bool.and_eq_true, decide_eq_true_eq, List.all_eq_true] at h
 obtain ⟨⟨⟨⟨⟨⟨h1, h2⟩, h3⟩, h4⟩, h5⟩, h6⟩, h7⟩ := h
 exact ⟨h1, h2, h3, h4, h5, h6, h7⟩
def VWs (db : Nat) (s : ByteArray) (f : Nat) (j : J) : Prop := ∀ (w : World) (o0 o : Nat) (r : List UInt8), DS w db s o0 → (o0 ≤ s.size ∧ skip (s.data.toList.drop o0) = s.data.toList.drop o) → Tb w → s.data.toList.drop o = j.enc ++ r → (peekL r < 48 ∨ 57 < peekL r) → Calls Tryz.prog 82 #[.pointer (some ⟨db, 0, none⟩)] w (VPost db s (o + j.enc.length) f j w)
theorem VWs.ok {db f : Nat} {s : ByteArray} {j : J} (h : VWs db s f j) : VOk db s f j := fun w o r hd hT hr hrd => by
 obtain ⟨c, l, h1, h2, _⟩ := enc_head j
 have h3 : s.data.toList.drop o = c :: (l ++ r) := by rw [hr, h1]; rfl
 have hp := (peek_cons h3).2.1
 exact h w o o r hd ⟨by omega, by rw [h3, skip, h2]; rfl⟩ hT hr hrd
theorem value_ws (db : Nat) (s : ByteArray) (hs : s.size ≤ 100000) (hTd : Tryz.laysValid_ren.g 3 ≠ db ∧ Tryz.laysValid_ren.g 4 ≠ db) : ∀ (j : J) (f : Nat), Sm j → Pl j → j.depth ≤ f → VWs db s f j := by
 refine J.ind fun k n t ns es ih f hj hpl hd w o0 o r h hsk hT hr hrd => ?_
 obtain ⟨h1, hw, h3⟩ := vd_zero.1 hj.1
 obtain ⟨hn, ht, hl, h5, h5', hu, hus⟩ := wf_parts hw
 obtain ⟨hpk, hpt, hpn, hpe⟩ := hpl
 rw [J.depth] at hd
 have hlen := hj.len
 rcases hpk with rfl | rfl | rfl
 · obtain rfl : es = [] := List.eq_nil_of_length_eq_zero (by omega)
   obtain rfl : ns = [] := h5' (by decide)
   obtain rfl : t = ⟨#[]⟩ := Decidable.byContradiction fun h => by have := ht h; omega
   obtain rfl : n = 0 := by simp at hn; omega
   exact val_null db f s hs w o0 o r h hsk hr
 · obtain rfl : es = [] := List.eq_nil_of_length_eq_zero (by omega)
   obtain rfl : ns = [] := h5' (by decide)
   obtain rfl : n = 0 := by simp at hn; omega
   exact val_text db f s t hs hTd ⟨hu, hpt⟩ w o0 o r h hsk hT hr
 · obtain rfl : t = ⟨#[]⟩ := Decidable.byContradiction fun h => by have := ht h; omega
   obtain rfl : n = 0 := by simp at hn; omega
   obtain ⟨f', rfl⟩ : ∃ f', f = f' + 1 := ⟨f - 1, by omega⟩
   have he : (J.mk 5 0 ⟨#[]⟩ ns es).enc = 123 :: (encL 5 0 ns es ++ [125]) := rfl
   rw [he] at hr ⊢
   have hx := val_obj db f' s hs ns es (h5 rfl) (fun s hm => ⟨hus s hm, hpn s hm⟩) hlen.2 (fun e hm => ih e hm f' (hj.elem hm) (hpe e hm) (by have := depthL_mem hm; omega) |>.ok) hTd w o0 o r h hsk hT (by rw [hr]; simp)
   rw [show o + (123 :: (encL 5 0 ns es ++ [125])).length = o + 1 + (encL 5 0 ns es).length + 1 by simp; omega]
   exact hx
end Go.Proofs.YtjlknaahpjiibaaGreatDoor.Jv
