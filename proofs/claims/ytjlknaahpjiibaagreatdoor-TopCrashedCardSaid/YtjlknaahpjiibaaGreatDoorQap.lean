/- Part of the proof of topCrashedLaw_holds. -/
import Derived.Test.YtjlknaahpjiibaaGreatDoorQao
namespace Go.Proofs.YtjlknaahpjiibaaGreatDoor
open Go.RowKit Go.ChangeMaps Go.MapKept Go.Shelf
set_option linter.unusedVariables false
set_option linter.unusedSimpArgs false
def RePost (D0 D : List Dc) (w : World) (e : Ending) (w' : World) : Prop :=
 ∃ u sv I S, e = .returned (.tuple #[u, sv, .int .i64 0]) ∧ IsIdx (D.map (eff D0)) I ∧ IxP (fun g => w.heap.size ≤ g ∧ g < w'.heap.size) (fun g => w.heap.size ≤ g ∧ g < w'.heap.size) w' u I ∧ StrsP (fun g => w.heap.size ≤ g ∧ g < w'.heap.size) w' sv S ∧ S.Perm (scanN D0 D) ∧ Chg [] w w'
structure ReI (D : List Dc) (w : World) (n : Nat) (es : List Ent) (ns : List ByteArray) (v11 v12 : Value) (wr : World) : Prop where
 len : es.length = n
 own : OwnEn wr w.heap.size v11 es
 nms : OwnS wr w.heap.size v12 ns
 chg : Chg [] w wr
 nm : es.map (·.nm) = (D.take n).map (·.1)
 ents : ∀ e ∈ es, EnOk D (fun g => v11.ownBlock ≠ some g ∧ v12.ownBlock ≠ some g ∧ w.heap.size ≤ g ∧ g < wr.heap.size) wr e
 ne : ∀ g, v11.ownBlock = some g → v12.ownBlock ≠ some g
theorem ReI.grow {D : List Dc} {w : World} {n : Nat} {es : List Ent} {ns : List ByteArray} {v11 v12 : Value} {wr W : World} (h : ReI D w n es ns v11 v12 wr) (hc : Chg [] wr W) : ReI D w n es ns v11 v12 W :=
 ⟨h.len, h.own.same hc, h.nms.same hc, h.chg.trans hc, h.nm, fun e he => (h.ents e he).mono (hc.p (S := fun _ => False)) (fun _ _ h => h) (fun g hg => ⟨hg.1, hg.2.1, hg.2.2.1, by have := hg.2.2.2; have := hc.size; omega⟩), h.ne⟩
theorem ReI.push {D : List Dc} {w : World} {n : Nat} {es : List Ent} {ns : List ByteArray} {v11 v12 v' : Value} {W W' : World} {en : Ent} {d : Dc} (h : ReI D w n es ns v11 v12 W) (hlt : n < D.length) (hd : D[n] = d) (hen : en.nm = d.1 ∧ en.sum = (ck d.2.2.data.toList : Nat))
 (B : Nat) (hB : w.heap.size ≤ B) (hwd : StrsP (fun g => B ≤ g ∧ g < W.heap.size) W en.wv (words d.2.2)) (h11 : ∀ g, v11.ownBlock = some g → g < B) (h12 : ∀ g, v12.ownBlock = some g → g < B)
 (ho : OwnEn W' w.heap.size v' (es ++ [en])) (hc : Chg v11.ownBlock.toList W W') (hb : ∀ g, v'.ownBlock = some g → v11.ownBlock = some g ∨ W.heap.size ≤ g) :
 ReI D w (n + 1) (es ++ [en]) ns v' v12 W' := by
 have hsz := hc.size
 have hm : d ∈ D := by rw [← hd]; exact List.getElem_mem hlt
 have h12' : ∀ g, v12.ownBlock = some g → ¬ (g ∈ v11.ownBlock.toList) := fun g hg hm => h.ne g (by simpa using hm) hg
 refine ⟨by rw [List.length_append, h.len]; rfl, ho, h.nms.kept hc.toP h12', h.chg.comp hc fun g hg => Or.inr (ownsRow_ge h.own (by simpa using hg)).1, ?_, ?_, ?_⟩
 · rw [List.map_append, h.nm, List.take_succ_eq_append_getElem hlt, List.map_append, hd, List.map_cons, List.map_nil, hen.1]
   rfl
 · intro e he
   rcases List.mem_append.1 he with he | he
   · refine (h.ents e he).mono hc.toP (fun g hg hm => hg.1 (by simpa using hm)) (fun g hg => ⟨fun h7 => ?_, hg.2.1, hg.2.2.1, by have := hg.2.2.2; omega⟩)
     rcases hb g h7 with h8 | h8
     · exact hg.1 h8
     · have := hg.2.2.2; omega
   · rw [List.mem_singleton] at he
     rw [he]
     refine ⟨d, hm, hen.1, hen.2, (hwd.kept hc.toP (fun g hg hm => ?_)).imp fun g hg => ⟨fun h7 => ?_, fun h7 => ?_, by have := hg.1; omega, by have := hg.2; omega⟩⟩
     · have := h11 g (by simpa using hm); have := hg.1; omega
     · rcases hb g h7 with h8 | h8
       · have := h11 g h8; have := hg.1; omega
       · have := hg.2; omega
     · have := h12 g h7; have := hg.1; omega
 · intro g hg h12g
   rcases hb g hg with h8 | h8
   · exact h.ne g h8 h12g
   · have := (ownsRow_ge h.nms h12g).2; omega
theorem ReI.name {D : List Dc} {w : World} {n : Nat} {es : List Ent} {ns ns' : List ByteArray} {v11 v12 v' : Value} {W W' : World} (h : ReI D w n es ns v11 v12 W)
 (ho : OwnS W' w.heap.size v' ns') (hc : Chg v12.ownBlock.toList W W') (hb : ∀ g, v'.ownBlock = some g → v12.ownBlock = some g ∨ W.heap.size ≤ g) :
 ReI D w n es ns' v11 v' W' := by
 have hsz := hc.size
 refine ⟨h.len, h.own.kept hc.toP (fun g hg hm => h.ne g hg (by simpa using hm)), ho, h.chg.comp hc fun g hg => Or.inr (ownsRow_ge h.nms (by simpa using hg)).1, h.nm, fun e he => (h.ents e he).mono hc.toP (fun g hg hm => hg.2.1 (by simpa using hm)) (fun g hg => ⟨hg.1, fun h7 => ?_, hg.2.2.1, by have := hg.2.2.2; omega⟩), fun g hg h7 => ?_⟩
 · rcases hb g h7 with h8 | h8
   · exact hg.2.1 h8
   · have := hg.2.2.2; omega
 · rcases hb g h7 with h8 | h8
   · exact h.ne g hg h8
   · have := (ownsRow_ge h.own hg).2; omega
theorem keep3 {w6 : World} {n2 : Nat} {u0 u1 u2 : Value} {a : Addr} (hne : a.block ≠ n2) :
 (((w6.setCell ⟨n2, 0, none⟩ u0).setCell ⟨n2, 1, none⟩ u1).setCell ⟨n2, 2, none⟩ u2).cell? a = w6.cell? a :=
 (cell_set_ne hne).trans ((cell_set_ne hne).trans (cell_set_ne hne))
set_option maxRecDepth 100000 in
set_option maxHeartbeats 8000000 in
theorem restore_any (p : Nat → Prop) (w : World) (v : Value) (D D0 : List Dc) (s : ByteArray) (h : DcP p w v D) (hok : DcOk D) (hM : ML w) (hs : s.size ≤ 40000) (hrs : (J.scanL s.data.toList).1 = D0.map recD)
 (hn0 : (D0.map (·.1)).Nodup) (hl0 : D0.length ≤ 20) (hk0 : ∀ d ∈ D0, d.1.size ≤ 60 ∧ d.2.2.size ≤ 2000) :
 Calls Tryz.prog 14 #[.string s, v] w (RePost D0 D w) := by
 obtain ⟨a, cap, rfl, hml, hcp⟩ := SlR.shape h
 have H := Lib.hid h
 have Hok := Lib.hid hok
 have HM := Lib.hid hM
 have Hrs := Lib.hid (And.intro hrs (And.intro hn0 (And.intro hl0 hk0)))
 have hD20 := hok.len
 unfold maxLen at hml
 clear h hok hM hrs hn0 hl0 hk0
 go_enter Tryz.func14, Tryz.ntmps14
 go_wp2_with fail
 refine (validDocs_any p w _ D H.out Hok.out).mono ?_
 rintro e w1 ⟨rfl, hc1⟩
 have H1 := Lib.hid hc1
 clear hc1
 go_wp2_with fail
 refine (J.recover_any s w1 hs).mono ?_
 rintro e w2 ⟨hc2, v2, rfl, ho2⟩
 rw [Hrs.out.1] at ho2
 have H2 := Lib.hid (And.intro (H1.out.trans hc2) ho2)
 clear hc2 ho2
 go_wp2_with fail
 refine (J.state_any w2 v2 _ H2.out.2.recs (by rw [List.length_map]; have := Hrs.out.2.2.1; omega) (fun r hr => by
  obtain ⟨d, hd, rfl⟩ := List.mem_map.1 hr
  rw [recD_key]
  have := (Hrs.out.2.2.2 d hd).1
  unfold maxLen
  omega)).mono ?_
 rintro e w3 ⟨v3, st, rfl, hst, hrc, hsl, hc3⟩
 obtain ⟨a3, c3, rfl, hm3, _⟩ := J.Recs.shape hrc
 rw [List.length_map] at hsl
 have hsl' : st.length ≤ 20 := by have := Hrs.out.2.2.1; omega
 have H3 := Lib.hid (And.intro hst (And.intro hrc (H2.out.1.trans hc3)))
 clear hst hrc hsl hc3 hm3
 go_wp2_with fail
 go_loopw [11, 12, 32] (fun v11 v12 i wr => ∃ (n : Nat) (es : List Ent) (ns : List ByteArray) (a11 : Option Addr) (c11 : Nat) (a12 : Option Addr) (c12 : Nat), n ≤ D.length ∧ i = .int .i64 (n : Nat) ∧ v11 = .slice a11 es.length c11 ∧ v12 = .slice a12 ns.length c12 ∧ Hid (ReI (D.map (eff D0)) w3 n es ns v11 v12 wr) ∧ Hid (ns = scanN D0 (D.take n))) (fun _ _ i _ => D.length - (intOf i).toNat)
 case atStart => exact ⟨0, [], [], none, 0, none, 0, by omega, rfl, rfl, rfl, Lib.hid ⟨rfl, OwnEn.nil _ _, OwnS.nil _ _, Chg.refl _ _, rfl, fun _ h => absurd h (by simp), fun g hg => by cases hg⟩, Lib.hid rfl⟩
 case round =>
  obtain ⟨n, es, ns, a11, c11, a12, c12, hn, rfl, rfl, rfl, HI, HSc⟩ := hrel
  by_cases hlt : n < D.length
  · obtain ⟨g, off, rfl, _, q0, q1, q2⟩ := (DcP.same H.out (H3.out.2.2.trans HI.out.chg)).cells n hlt
    obtain ⟨x, hx⟩ : ∃ x, D.getD n dc0 = x := ⟨_, rfl⟩
    have hxm : x ∈ D := by rw [← hx]; exact getD_memb hlt _
    have hxd : D[n] = x := by rw [← hx, List.getD_eq_getElem?_getD, List.getElem?_eq_getElem hlt]; rfl
    have Hxd := Lib.hid hxd
    clear hxd
    rw [hx] at q0 q1 q2
    obtain ⟨x1, x2, x3⟩ := x
    simp only at q0 q1 q2
    have lg := lt_of_cell q0
    have hn1 : (n : Int) < D.length := by omega
    have hn0 : (0 : Int) ≤ (n : Int) := by omega
    have Hx := Lib.hid hxm
    clear hx hxm
    obtain ⟨w5, hw5⟩ : ∃ q, q = wr.alloc (.cells #[.string x1, .int .i64 x2, .string x3] 28) := ⟨_, rfl⟩
    obtain ⟨n5, hn5⟩ : ∃ q, q = wr.heap.size := ⟨_, rfl⟩
    have hc5 : Chg [] wr w5 := by rw [hw5]; exact (Chg.refl [] _).alloc _
    have hb5 : w5.heap[n5]? = some (.cells #[.string x1, .int .i64 x2, .string x3] 28 (0, 0)) := by rw [hw5, hn5]; exact heap_at _ _ _ rfl
    have HW5 := Lib.hid (And.intro hw5 hn5)
    have Hc5 := Lib.hid (And.intro hc5 hb5)
    have Hix := Lib.hid (idxRec_any w5 _ st x1 x2 x3 n5 (H3.out.2.1.same (HI.out.chg.trans hc5)) hb5)
    clear hw5 hn5 hc5 hb5
    by_cases hin : ∃ d0 ∈ D0, d0.1 = x1
    · obtain ⟨d0, hd0, hd1⟩ := hin
      obtain ⟨j, hj, hf, hsj⟩ := state_find H3.out.1 Hrs.out.2.1 hd0
      rw [hd1] at hf
      rw [hf] at Hix
      have hj0 : (0 : Int) ≤ (j : Int) := by omega
      have hj1 : (j : Int) < st.length := by omega
      have hje : st.getD j J.Rec.zero = recD d0 := by rw [List.getD_eq_getElem?_getD, List.getElem?_eq_getElem hj, Option.getD_some, hsj]
      obtain ⟨vl, hvl⟩ : ∃ y, y = lb (encL (ck d0.2.2.data.toList) (words d0.2.2)) := ⟨_, rfl⟩
      have Hd0 := Lib.hid (And.intro hd0 (And.intro hd1 (And.intro hje hvl)))
      clear hd0 hd1 hf hsj hje hvl
      go_upto_region 11 with (fail)
      rw [← HW5.out.1, ← HW5.out.2]
      clear q0 q1 q2 lg
      go_wp2_with fail
      refine Hix.out.mono ?_
      rintro e w6 ⟨rfl, hc6⟩
      have hcr := HI.out.chg.trans (Hc5.out.1.trans hc6)
      obtain ⟨a', cap', he, _, hc'⟩ := J.Recs.shape (H3.out.2.1.same hcr)
      obtain ⟨g3, off3, he2, _, q1, _⟩ := hc' j hj
      simp only [Value.slice.injEq] at he
      obtain ⟨rfl, _, rfl⟩ := he
      subst he2
      rw [Hd0.out.2.2.1, recD_val, ← Hd0.out.2.2.2] at q1
      have e5 := (hc6.block _ (lt_of_obj Hc5.out.2) (by simp)).trans Hc5.out.2
      have d0' : w6.cell? ⟨n5, 0, none⟩ = some (.string x1) := cell_of_heap e5 rfl
      have d1' : w6.cell? ⟨n5, 1, none⟩ = some (.int .i64 x2) := cell_of_heap e5 rfl
      have d2' : w6.cell? ⟨n5, 2, none⟩ = some (.string x3) := cell_of_heap e5 rfl
      have ld := lt_of_cell d0'
      have lq := lt_of_cell q1
      have H6 := Lib.hid (And.intro (Hc5.out.1.trans hc6) e5)
      clear hc6 hcr hc' e5
      by_cases htx : ck d0.2.2.data.toList = ck x3.data.toList
      · have HD : Hid (∀ W, Chg [] w6 W → Calls Tryz.prog 37 #[.agg #[.string x1, .int .i64 x2, .string x3], .string vl] W (DecPost x1 x3 d0.2.2 W)) := Lib.hid (fun W hW => by
         rw [Hd0.out.2.2.2, htx]
         exact decode_hit x1 x2 x3 d0.2.2 W (Hok.out.ok _ Hx.out).2.2 (Hrs.out.2.2.2 _ Hd0.out.1).2 (HM.out.new (((H3.out.2.2.trans HI.out.chg).trans H6.out.1).trans hW)))
        obtain ⟨t0, ht0⟩ : ∃ t, t = d0.2.2 := ⟨_, rfl⟩
        rw [← ht0] at HD
        have Htx := Lib.hid (And.intro htx ht0)
        clear htx ht0
        have hn6 : n5 ≠ w6.heap.size := by have : n5 < w6.heap.size := ld; omega
        have hq6 : g3 ≠ w6.heap.size := by have : g3 < w6.heap.size := lq; omega
        go_upto_region 13 with (fail)
        go_region_held3 (fun W => W.cell? ⟨n5, 0, none⟩ = some (.string x1) ∧ W.cell? ⟨n5, 1, none⟩ = some (.int .i64 x2) ∧ W.cell? ⟨n5, 2, none⟩ = some (.string x3) ∧ W.cell? ⟨g3, off3 + j * 3 + 1, none⟩ = some (.string vl))
         (first | (go_keep; done) | (exact ⟨r0, r1, r2, r3⟩) | (exact ⟨(keep3 hn6).trans r0, (keep3 hn6).trans r1, (keep3 hn6).trans r2, (keep3 hq6).trans r3⟩))
         (first
          | (go_at_call 37; (with_reducible refine (HD.out _ (Chg.refl [] _).drew).mono ?_); rintro e w7 ⟨a7, c7, rfl, hs7, hc7⟩; have hc7' := (Chg.refl [] w6).drew.trans hc7; have r0 := (hc7'.cell ld (by simp)).trans d0'; have r1 := (hc7'.cell (p := ⟨n5, 1, none⟩) ld (by simp)).trans d1'; have r2 := (hc7'.cell (p := ⟨n5, 2, none⟩) ld (by simp)).trans d2'; have r3 := (hc7'.cell lq (by simp)).trans q1; have H7 := Lib.hid (And.intro hs7 hc7'); clear hs7 hc7 hc7')
          | (go_at_call 37; (with_reducible refine (HD.out _ ((Chg.refl [] w6).alloc _).drew).mono ?_); rintro e w7 ⟨a7, c7, rfl, hs7, hc7⟩; have hc7' := ((Chg.refl [] w6).alloc _).drew.trans hc7; have r0 := (hc7'.cell ld (by simp)).trans d0'; have r1 := (hc7'.cell (p := ⟨n5, 1, none⟩) ld (by simp)).trans d1'; have r2 := (hc7'.cell (p := ⟨n5, 2, none⟩) ld (by simp)).trans d2'; have r3 := (hc7'.cell lq (by simp)).trans q1; have e16 := (hc7.block w6.heap.size (by simp) (by simp)).trans (heap_at w6 (.cells #[.string ⟨#[]⟩, .int .u32 0, .slice none 0 0] 70) _ rfl); have z0 : w7.cell? ⟨w6.heap.size, 0, none⟩ = some (.string ⟨#[]⟩) := cell_of_heap e16 rfl; have z1 : w7.cell? ⟨w6.heap.size, 1, none⟩ = some (.int .u32 0) := cell_of_heap e16 rfl; have z2 : w7.cell? ⟨w6.heap.size, 2, none⟩ = some (.slice none 0 0) := cell_of_heap e16 rfl; have f0 : w7.frozen? ⟨w6.heap.size, 0, none⟩ = false := frozen_of_heap e16; have f1 : w7.frozen? ⟨w6.heap.size, 1, none⟩ = false := frozen_of_heap e16; have f2 : w7.frozen? ⟨w6.heap.size, 2, none⟩ = false := frozen_of_heap e16; have l16 := lt_of_cell z0; have H7 := Lib.hid (And.intro hs7 (And.intro hc7' e16)); clear hs7 hc7 hc7' e16))
        · obtain ⟨w8, hw8⟩ : ∃ q, q = (w7.alloc (.cells #[.string x1, .int .u32 (ck x3.data.toList : Nat), .slice a7 (words t0).length c7] 70)).alloc (.cells #[.string x1, .int .u32 (ck x3.data.toList : Nat), .slice a7 (words t0).length c7] 70) := ⟨_, rfl⟩
          obtain ⟨n8, hn8⟩ : ∃ q, q = w7.heap.size + 1 := ⟨_, rfl⟩
          have hc8 : Chg [] w6 w8 := by rw [hw8]; exact (H7.out.2.alloc _).alloc _
          have hb8 : w8.heap[n8]? = some (.cells #[.string x1, .int .u32 (ck x3.data.toList : Nat), .slice a7 (words t0).length c7] 70 (0, 0)) := by rw [hw8, hn8]; exact heap_at _ _ _ (by simp)
          have hwd8 : StrsP (fun g => w6.heap.size ≤ g ∧ g < w8.heap.size) w8 (.slice a7 (words t0).length c7) (words t0) := by
           rw [hw8]
           exact ((H7.out.1.same ((Chg.refl [] w7).alloc _)).same ((Chg.refl [] _).alloc _)).imp fun g hg => ⟨hg.1, by simp; have := hg.2; omega⟩
          obtain ⟨en, hen⟩ : ∃ e, e = Ent.mk x1 (ck x3.data.toList : Nat) a7 (words t0).length c7 := ⟨_, rfl⟩
          have hI8 := (HI.out.grow H6.out.1).grow hc8
          have hes : es.length ≤ 1000 := by have := hI8.len; omega
          obtain ⟨v9, w9, hr9, ho9, hc9, hb9⟩ := run_append_ent w8 29 w3.heap.size _ es en n8 hI8.own (by rw [hb8, hen]) hes hI8.chg.size
          obtain ⟨a9, c9, rfl⟩ := ownsRow_shape ho9
          have hOl : (es ++ [en]).length = es.length + 1 := by simp
          have hlt6 : ∀ (v : Value) (g : Nat), (∃ base e sz k xs, w6.ownsRow base e sz v k xs) → v.ownBlock = some g → g < w6.heap.size := fun v g ⟨_, _, _, _, _, h⟩ hg => (ownsRow_ge h hg).2
          have hI6 := HI.out.grow H6.out.1
          have hfr : scanN D0 (D.take (n + 1)) = scanN D0 (D.take n) := by
           rw [List.take_succ_eq_append_getElem hlt, Hxd.out, scanN_snoc, (eff_hit Hrs.out.2.1 (d := (x1, x2, x3)) Hd0.out.1 Hd0.out.2.1 Htx.out.1).2, if_pos rfl, List.append_nil]
          have hdx : (D.map (eff D0))[n]'(by simpa using hlt) = (x1, x2, t0) := by rw [List.getElem_map, Hxd.out, (eff_hit Hrs.out.2.1 (d := (x1, x2, x3)) Hd0.out.1 Hd0.out.2.1 Htx.out.1).1, Htx.out.2]
          have hI9 := hI8.push (by simpa using hlt) hdx (en := en) (by rw [hen]; exact ⟨rfl, by show ((ck x3.data.toList : Nat) : Int) = ((ck t0.data.toList : Nat) : Int); rw [Htx.out.2, Htx.out.1]⟩) w6.heap.size hI6.chg.size (by rw [hen]; exact hwd8) (fun g hg => hlt6 _ g ⟨_, _, _, _, _, hI6.own⟩ hg) (fun g hg => hlt6 _ g ⟨_, _, _, _, _, hI6.nms⟩ hg) ho9 hc9 hb9
          have H9 := Lib.hid (And.intro hI9 hfr)
          have Hr9 := Lib.hid hr9
          have HW8 := Lib.hid (And.intro hw8 hn8)
          rw [hOl] at Hr9
          have HOl := Lib.hid hOl
          clear hen hI8 hes hr9 ho9 hc9 hb9 hOl hlt6 hI6 hfr hI9 hdx hw8 hn8 hc8 hb8 hwd8
          go_wp2_with (at_builtin; rw [← HW8.out.1, ← HW8.out.2]; refine wpList_append_run rfl _ _ _ rfl _ _ _ _ rfl rfl Hr9.out ?_)
          exact ⟨⟨n + 1, es ++ [en], ns, a9, c9, a12, c12, by omega, by go_num, by rw [HOl.out], rfl, Lib.hid (by rw [← HOl.out]; exact H9.out.1), Lib.hid (by rw [H9.out.2]; exact HSc.out)⟩, by simp [intOf]; omega⟩
        · obtain ⟨w8, hw8⟩ : ∃ q, q = (((w7.setCell ⟨w6.heap.size, 0, none⟩ (.string x1)).setCell ⟨w6.heap.size, 1, none⟩ (.int .u32 (ck x3.data.toList : Nat))).setCell ⟨w6.heap.size, 2, none⟩ (.slice a7 (words t0).length c7)).alloc (.cells #[.string x1, .int .u32 (ck x3.data.toList : Nat), .slice a7 (words t0).length c7] 70) := ⟨_, rfl⟩
          obtain ⟨n8, hn8⟩ : ∃ q, q = w7.heap.size := ⟨_, rfl⟩
          have hsc : ChgP (fun k => k = w6.heap.size) w7 (((w7.setCell ⟨w6.heap.size, 0, none⟩ (.string x1)).setCell ⟨w6.heap.size, 1, none⟩ (.int .u32 (ck x3.data.toList : Nat))).setCell ⟨w6.heap.size, 2, none⟩ (.slice a7 (words t0).length c7)) :=
           (((ChgP.refl (fun k => k = w6.heap.size) w7).setCell (p := ⟨w6.heap.size, 0, none⟩) (Or.inl rfl) _).setCell (p := ⟨w6.heap.size, 1, none⟩) (Or.inl rfl) _).setCell (p := ⟨w6.heap.size, 2, none⟩) (Or.inl rfl) _
          have hc8 : Chg [] w6 w8 := by
           rw [hw8]
           exact (((H7.out.2.1.setCell (p := ⟨w6.heap.size, 0, none⟩) (Or.inr (Nat.le_refl _)) _).setCell (p := ⟨w6.heap.size, 1, none⟩) (Or.inr (Nat.le_refl _)) _).setCell (p := ⟨w6.heap.size, 2, none⟩) (Or.inr (Nat.le_refl _)) _).alloc _
          have hb8 : w8.heap[n8]? = some (.cells #[.string x1, .int .u32 (ck x3.data.toList : Nat), .slice a7 (words t0).length c7] 70 (0, 0)) := by rw [hw8, hn8]; exact heap_at _ _ _ (by simp [World.setCell])
          have hwd8 : StrsP (fun g => w6.heap.size ≤ g ∧ g < w8.heap.size) w8 (.slice a7 (words t0).length c7) (words t0) := by
           rw [hw8]
           refine ((H7.out.1.kept hsc (fun g hg hm => ?_)).same ((Chg.refl [] _).alloc _)).imp fun g hg => ⟨?_, ?_⟩
           · have h1 : (w6.alloc (.cells #[.string ⟨#[]⟩, .int .u32 0, .slice none 0 0] 70)).drew.heap.size ≤ g := hg.1
             have h2 : (w6.alloc (.cells #[.string ⟨#[]⟩, .int .u32 0, .slice none 0 0] 70)).drew.heap.size = w6.heap.size + 1 := by simp [World.drew]
             omega
           · have h1 : (w6.alloc (.cells #[.string ⟨#[]⟩, .int .u32 0, .slice none 0 0] 70)).drew.heap.size ≤ g := hg.1
             have h2 : (w6.alloc (.cells #[.string ⟨#[]⟩, .int .u32 0, .slice none 0 0] 70)).drew.heap.size = w6.heap.size + 1 := by simp [World.drew]
             omega
           · have := hg.2; simp [World.setCell]; omega
          clear hsc
          obtain ⟨en, hen⟩ : ∃ e, e = Ent.mk x1 (ck x3.data.toList : Nat) a7 (words t0).length c7 := ⟨_, rfl⟩
          have hI8 := (HI.out.grow H6.out.1).grow hc8
          have hes : es.length ≤ 1000 := by have := hI8.len; omega
          obtain ⟨v9, w9, hr9, ho9, hc9, hb9⟩ := run_append_ent w8 29 w3.heap.size _ es en n8 hI8.own (by rw [hb8, hen]) hes hI8.chg.size
          obtain ⟨a9, c9, rfl⟩ := ownsRow_shape ho9
          have hOl : (es ++ [en]).length = es.length + 1 := by simp
          have hlt6 : ∀ (v : Value) (g : Nat), (∃ base e sz k xs, w6.ownsRow base e sz v k xs) → v.ownBlock = some g → g < w6.heap.size := fun v g ⟨_, _, _, _, _, h⟩ hg => (ownsRow_ge h hg).2
          have hI6 := HI.out.grow H6.out.1
          have hfr : scanN D0 (D.take (n + 1)) = scanN D0 (D.take n) := by
           rw [List.take_succ_eq_append_getElem hlt, Hxd.out, scanN_snoc, (eff_hit Hrs.out.2.1 (d := (x1, x2, x3)) Hd0.out.1 Hd0.out.2.1 Htx.out.1).2, if_pos rfl, List.append_nil]
          have hdx : (D.map (eff D0))[n]'(by simpa using hlt) = (x1, x2, t0) := by rw [List.getElem_map, Hxd.out, (eff_hit Hrs.out.2.1 (d := (x1, x2, x3)) Hd0.out.1 Hd0.out.2.1 Htx.out.1).1, Htx.out.2]
          have hI9 := hI8.push (by simpa using hlt) hdx (en := en) (by rw [hen]; exact ⟨rfl, by show ((ck x3.data.toList : Nat) : Int) = ((ck t0.data.toList : Nat) : Int); rw [Htx.out.2, Htx.out.1]⟩) w6.heap.size hI6.chg.size (by rw [hen]; exact hwd8) (fun g hg => hlt6 _ g ⟨_, _, _, _, _, hI6.own⟩ hg) (fun g hg => hlt6 _ g ⟨_, _, _, _, _, hI6.nms⟩ hg) ho9 hc9 hb9
          have H9 := Lib.hid (And.intro hI9 hfr)
          have Hr9 := Lib.hid hr9
          have HW8 := Lib.hid (And.intro hw8 hn8)
          rw [hOl] at Hr9
          have HOl := Lib.hid hOl
          clear hen hI8 hes hr9 ho9 hc9 hb9 hOl hlt6 hI6 hfr hI9 hdx hw8 hn8 hc8 hb8 hwd8
          go_wp2_with (at_builtin; rw [← HW8.out.1, ← HW8.out.2]; refine wpList_append_run rfl _ _ _ rfl _ _ _ _ rfl rfl Hr9.out ?_)
          exact ⟨⟨n + 1, es ++ [en], ns, a9, c9, a12, c12, by omega, by go_num, by rw [HOl.out], rfl, Lib.hid (by rw [← HOl.out]; exact H9.out.1), Lib.hid (by rw [H9.out.2]; exact HSc.out)⟩, by simp [intOf]; omega⟩
      · have HD : Hid (∀ W, Chg [] w6 W → Calls Tryz.prog 37 #[.agg #[.string x1, .int .i64 x2, .string x3], .string vl] W fun e w' => e = .returned (.tuple #[.agg #[.string ⟨#[]⟩, .int .u32 0, .slice none 0 0], .bool false]) ∧ Chg [] W w') := Lib.hid (fun W hW => by
         rw [Hd0.out.2.2.2]
         exact decode_miss x1 x2 x3 _ _ W (Hok.out.ok _ Hx.out).2.2 (ck_lt _) (fun e => htx e.symm))
        have Hfr : Hid (eff D0 (x1, x2, x3) = (x1, x2, x3) ∧ fresh D0 (x1, x2, x3) = false) := Lib.hid (eff_miss fun d hd e1 => by
         have : d = d0 := by rw [← dOf_eq Hrs.out.2.1 hd, ← dOf_eq Hrs.out.2.1 Hd0.out.1, e1, Hd0.out.2.1]
         rw [this]
         exact htx)
        have Htx := Lib.hid htx
        clear htx
        have hn6 : n5 ≠ w6.heap.size := by have : n5 < w6.heap.size := ld; omega
        have hq6 : g3 ≠ w6.heap.size := by have : g3 < w6.heap.size := lq; omega
        go_upto_region 13 with (fail)
        go_region_held3 (fun W => W.cell? ⟨n5, 0, none⟩ = some (.string x1) ∧ W.cell? ⟨n5, 1, none⟩ = some (.int .i64 x2) ∧ W.cell? ⟨n5, 2, none⟩ = some (.string x3) ∧ W.cell? ⟨g3, off3 + j * 3 + 1, none⟩ = some (.string vl))
         (first | (go_keep; done) | (exact ⟨r0, r1, r2, r3⟩) | (exact ⟨(keep3 hn6).trans r0, (keep3 hn6).trans r1, (keep3 hn6).trans r2, (keep3 hq6).trans r3⟩))
         (first
          | (go_at_call 37; (with_reducible refine (HD.out _ (Chg.refl [] _).drew).mono ?_); rintro e w7 ⟨rfl, hc7⟩; have hc7' := (Chg.refl [] w6).drew.trans hc7; have r0 := (hc7'.cell ld (by simp)).trans d0'; have r1 := (hc7'.cell (p := ⟨n5, 1, none⟩) ld (by simp)).trans d1'; have r2 := (hc7'.cell (p := ⟨n5, 2, none⟩) ld (by simp)).trans d2'; have r3 := (hc7'.cell lq (by simp)).trans q1; have H7 := Lib.hid hc7'; clear hc7 hc7')
          | (go_at_call 37; (with_reducible refine (HD.out _ ((Chg.refl [] w6).alloc _).drew).mono ?_); rintro e w7 ⟨rfl, hc7⟩; have hc7' := ((Chg.refl [] w6).alloc _).drew.trans hc7; have r0 := (hc7'.cell ld (by simp)).trans d0'; have r1 := (hc7'.cell (p := ⟨n5, 1, none⟩) ld (by simp)).trans d1'; have r2 := (hc7'.cell (p := ⟨n5, 2, none⟩) ld (by simp)).trans d2'; have r3 := (hc7'.cell lq (by simp)).trans q1; have e16 := (hc7.block w6.heap.size (by simp) (by simp)).trans (heap_at w6 (.cells #[.string ⟨#[]⟩, .int .u32 0, .slice none 0 0] 70) _ rfl); have z0 : w7.cell? ⟨w6.heap.size, 0, none⟩ = some (.string ⟨#[]⟩) := cell_of_heap e16 rfl; have z1 : w7.cell? ⟨w6.heap.size, 1, none⟩ = some (.int .u32 0) := cell_of_heap e16 rfl; have z2 : w7.cell? ⟨w6.heap.size, 2, none⟩ = some (.slice none 0 0) := cell_of_heap e16 rfl; have f0 : w7.frozen? ⟨w6.heap.size, 0, none⟩ = false := frozen_of_heap e16; have f1 : w7.frozen? ⟨w6.heap.size, 1, none⟩ = false := frozen_of_heap e16; have f2 : w7.frozen? ⟨w6.heap.size, 2, none⟩ = false := frozen_of_heap e16; have l16 := lt_of_cell z0; have H7 := Lib.hid (And.intro hc7' e16); clear hc7 hc7' e16))
        · obtain ⟨w8, hw8⟩ : ∃ q, q = w7.alloc (.cells #[.string ⟨#[]⟩, .int .u32 0, .slice none 0 0] 70) := ⟨_, rfl⟩
          have hc8 : Chg [] w6 w8 := by rw [hw8]; exact H7.out.alloc _
          rw [← hw8]
          clear hw8
          clear r0 r1 r2 r3
          have e8 := (hc8.block _ (lt_of_obj H6.out.2) (by simp)).trans H6.out.2
          have y0 : w8.cell? ⟨n5, 0, none⟩ = some (.string x1) := cell_of_heap e8 rfl
          have y1 : w8.cell? ⟨n5, 1, none⟩ = some (.int .i64 x2) := cell_of_heap e8 rfl
          have y2 : w8.cell? ⟨n5, 2, none⟩ = some (.string x3) := cell_of_heap e8 rfl
          have l8 := lt_of_cell y0
          have hI8 := (HI.out.grow H6.out.1).grow hc8
          have hown5 : ∀ g, (Value.slice a11 es.length c11).ownBlock = some g → g < n5 := fun g hg => by rw [HW5.out.2]; exact (ownsRow_ge HI.out.own hg).2
          have H8 := Lib.hid (And.intro hI8 (And.intro e8 hown5))
          clear hI8 e8 hc8 hown5
          go_wp2_with fail
          refine (newEntry_any x1 x2 x3 w8 (Hok.out.ok _ Hx.out).2.2).mono ?_
          rintro e w9 ⟨a9, c9, rfl, hs9, hc9⟩
          obtain ⟨en, hen⟩ : ∃ e, e = Ent.mk x1 (ck x3.data.toList : Nat) a9 (words x3).length c9 := ⟨_, rfl⟩
          obtain ⟨w10, hw10⟩ : ∃ q, q = w9.alloc (.cells #[.string x1, .int .u32 (ck x3.data.toList : Nat), .slice a9 (words x3).length c9] 70) := ⟨_, rfl⟩
          obtain ⟨n10, hn10⟩ : ∃ q, q = w9.heap.size := ⟨_, rfl⟩
          have hc10 : Chg [] w9 w10 := by rw [hw10]; exact (Chg.refl [] _).alloc _
          have hb10 : w10.heap[n10]? = some (.cells #[.string en.nm, .int .u32 en.sum, .slice en.wa en.wn en.wc] 70 (0, 0)) := by rw [hw10, hn10, hen]; exact heap_at _ _ _ rfl
          have hc810 := hc9.trans hc10
          have hI10 := H8.out.1.grow hc810
          have hes : es.length ≤ 1000 := by have := hI10.len; omega
          obtain ⟨v11, w11, hr11, ho11, hc11, hb11⟩ := run_append_ent w10 29 w3.heap.size _ es en n10 hI10.own hb10 hes hI10.chg.size
          obtain ⟨a13, c13, rfl⟩ := ownsRow_shape ho11
          have hOl : (es ++ [en]).length = es.length + 1 := by simp
          have hwd10 : StrsP (fun g => w8.heap.size ≤ g ∧ g < w10.heap.size) w10 en.wv (words x3) := by
           rw [hen]
           exact (hs9.same hc10).imp fun g hg => ⟨hg.1, Nat.lt_of_lt_of_le hg.2 hc10.size⟩
          have hdx : (D.map (eff D0))[n]'(by simpa using hlt) = (x1, x2, x3) := by rw [List.getElem_map, Hxd.out, Hfr.out.1]
          have hI11 := hI10.push (by simpa using hlt) hdx (en := en) (by rw [hen]; exact ⟨rfl, rfl⟩) w8.heap.size H8.out.1.chg.size hwd10 (fun g hg => (ownsRow_ge H8.out.1.own hg).2) (fun g hg => (ownsRow_ge H8.out.1.nms hg).2) ho11 hc11 hb11
          have hsz5 := hc810.size
          have k0 : w11.cell? ⟨n5, 0, none⟩ = some (.string x1) := cell_of_heap (((hc11.block _ (Nat.lt_of_lt_of_le l8 hsz5) (fun hm => Nat.lt_irrefl _ (H8.out.2.2 _ (by simpa using hm)))).trans (hc810.block _ l8 (by simp))).trans H8.out.2.1) rfl
          have l11 := lt_of_cell k0
          obtain ⟨w12, hw12⟩ : ∃ q, q = w11.alloc (.cells #[.string x1] 9) := ⟨_, rfl⟩
          obtain ⟨n12, hn12⟩ : ∃ q, q = w11.heap.size := ⟨_, rfl⟩
          have hc12 : Chg [] w11 w12 := by rw [hw12]; exact (Chg.refl [] _).alloc _
          have hb12 : w12.heap[n12]? = some (.cells #[.string x1] 9 (0, 0)) := by rw [hw12, hn12]; exact heap_at _ _ _ rfl
          have hI12 := hI11.grow hc12
          have hns : ns.length ≤ 1000 := by have := scanN_len D0 (D.take n); rw [← HSc.out, List.length_take] at this; omega
          obtain ⟨v13, w13, hr13, ho13, hc13, hb13⟩ := run_append_nm w12 22 w3.heap.size _ ns x1 n12 hI12.nms hb12 hns hI12.chg.size
          obtain ⟨a14, c14, rfl⟩ := ownsRow_shape ho13
          have hOn : (ns ++ [x1]).length = ns.length + 1 := by simp
          have hI13 := hI12.name ho13 hc13 hb13
          have hfr : scanN D0 (D.take (n + 1)) = scanN D0 (D.take n) ++ [x1] := by
           rw [List.take_succ_eq_append_getElem hlt, Hxd.out, scanN_snoc, Hfr.out.2]
           rfl
          rw [hOl] at hr11
          rw [hOn] at hr13
          have Hr11 := Lib.hid hr11
          have Hr13 := Lib.hid hr13
          have HW10 := Lib.hid (And.intro hw10 hn10)
          have HW12 := Lib.hid (And.intro hw12 hn12)
          have H13 := Lib.hid (And.intro hI13 (And.intro hfr (And.intro hOl hOn)))
          clear hen hs9 hc9 hw10 hn10 hc10 hb10 hc810 hI10 hes hr11 ho11 hc11 hb11 hOl hwd10 hI11 hsz5 hw12 hn12 hc12 hb12 hI12 hns hr13 ho13 hc13 hb13 hOn hI13 hfr hdx y0 y1 y2 l8
          go_wp2_with (first | (at_builtin; rw [← HW10.out.1, ← HW10.out.2]; refine wpList_append_run rfl _ _ _ rfl _ _ _ _ rfl rfl Hr11.out ?_) | (at_builtin; rw [← HW12.out.1, ← HW12.out.2]; refine wpList_append_run rfl _ _ _ rfl _ _ _ _ rfl rfl Hr13.out ?_))
          exact ⟨⟨n + 1, es ++ [en], ns ++ [x1], a13, c13, a14, c14, by omega, by go_num, by rw [H13.out.2.2.1], by rw [H13.out.2.2.2], Lib.hid (by rw [← H13.out.2.2.1, ← H13.out.2.2.2]; exact H13.out.1), Lib.hid (by rw [H13.out.2.1, ← HSc.out])⟩, by simp [intOf]; omega⟩
        · obtain ⟨w8, hw8⟩ : ∃ q, q = ((w7.setCell ⟨w6.heap.size, 0, none⟩ (.string ⟨#[]⟩)).setCell ⟨w6.heap.size, 1, none⟩ (.int .u32 0)).setCell ⟨w6.heap.size, 2, none⟩ (.slice none 0 0) := ⟨_, rfl⟩
          have hc8 : Chg [] w6 w8 := by
           rw [hw8]
           exact ((H7.out.1.setCell (p := ⟨w6.heap.size, 0, none⟩) (Or.inr (Nat.le_refl _)) _).setCell (p := ⟨w6.heap.size, 1, none⟩) (Or.inr (Nat.le_refl _)) _).setCell (p := ⟨w6.heap.size, 2, none⟩) (Or.inr (Nat.le_refl _)) _
          rw [← hw8]
          clear hw8
          clear r0 r1 r2 r3 z0 z1 z2 f0 f1 f2 l16
          have e8 := (hc8.block _ (lt_of_obj H6.out.2) (by simp)).trans H6.out.2
          have y0 : w8.cell? ⟨n5, 0, none⟩ = some (.string x1) := cell_of_heap e8 rfl
          have y1 : w8.cell? ⟨n5, 1, none⟩ = some (.int .i64 x2) := cell_of_heap e8 rfl
          have y2 : w8.cell? ⟨n5, 2, none⟩ = some (.string x3) := cell_of_heap e8 rfl
          have l8 := lt_of_cell y0
          have hI8 := (HI.out.grow H6.out.1).grow hc8
          have hown5 : ∀ g, (Value.slice a11 es.length c11).ownBlock = some g → g < n5 := fun g hg => by rw [HW5.out.2]; exact (ownsRow_ge HI.out.own hg).2
          have H8 := Lib.hid (And.intro hI8 (And.intro e8 hown5))
          clear hI8 e8 hc8 hown5
          go_wp2_with fail
          refine (newEntry_any x1 x2 x3 w8 (Hok.out.ok _ Hx.out).2.2).mono ?_
          rintro e w9 ⟨a9, c9, rfl, hs9, hc9⟩
          obtain ⟨en, hen⟩ : ∃ e, e = Ent.mk x1 (ck x3.data.toList : Nat) a9 (words x3).length c9 := ⟨_, rfl⟩
          obtain ⟨w10, hw10⟩ : ∃ q, q = w9.alloc (.cells #[.string x1, .int .u32 (ck x3.data.toList : Nat), .slice a9 (words x3).length c9] 70) := ⟨_, rfl⟩
          obtain ⟨n10, hn10⟩ : ∃ q, q = w9.heap.size := ⟨_, rfl⟩
          have hc10 : Chg [] w9 w10 := by rw [hw10]; exact (Chg.refl [] _).alloc _
          have hb10 : w10.heap[n10]? = some (.cells #[.string en.nm, .int .u32 en.sum, .slice en.wa en.wn en.wc] 70 (0, 0)) := by rw [hw10, hn10, hen]; exact heap_at _ _ _ rfl
          have hc810 := hc9.trans hc10
          have hI10 := H8.out.1.grow hc810
          have hes : es.length ≤ 1000 := by have := hI10.len; omega
          obtain ⟨v11, w11, hr11, ho11, hc11, hb11⟩ := run_append_ent w10 29 w3.heap.size _ es en n10 hI10.own hb10 hes hI10.chg.size
          obtain ⟨a13, c13, rfl⟩ := ownsRow_shape ho11
          have hOl : (es ++ [en]).length = es.length + 1 := by simp
          have hwd10 : StrsP (fun g => w8.heap.size ≤ g ∧ g < w10.heap.size) w10 en.wv (words x3) := by
           rw [hen]
           exact (hs9.same hc10).imp fun g hg => ⟨hg.1, Nat.lt_of_lt_of_le hg.2 hc10.size⟩
          have hdx : (D.map (eff D0))[n]'(by simpa using hlt) = (x1, x2, x3) := by rw [List.getElem_map, Hxd.out, Hfr.out.1]
          have hI11 := hI10.push (by simpa using hlt) hdx (en := en) (by rw [hen]; exact ⟨rfl, rfl⟩) w8.heap.size H8.out.1.chg.size hwd10 (fun g hg => (ownsRow_ge H8.out.1.own hg).2) (fun g hg => (ownsRow_ge H8.out.1.nms hg).2) ho11 hc11 hb11
          have hsz5 := hc810.size
          have k0 : w11.cell? ⟨n5, 0, none⟩ = some (.string x1) := cell_of_heap (((hc11.block _ (Nat.lt_of_lt_of_le l8 hsz5) (fun hm => Nat.lt_irrefl _ (H8.out.2.2 _ (by simpa using hm)))).trans (hc810.block _ l8 (by simp))).trans H8.out.2.1) rfl
          have l11 := lt_of_cell k0
          obtain ⟨w12, hw12⟩ : ∃ q, q = w11.alloc (.cells #[.string x1] 9) := ⟨_, rfl⟩
          obtain ⟨n12, hn12⟩ : ∃ q, q = w11.heap.size := ⟨_, rfl⟩
          have hc12 : Chg [] w11 w12 := by rw [hw12]; exact (Chg.refl [] _).alloc _
          have hb12 : w12.heap[n12]? = some (.cells #[.string x1] 9 (0, 0)) := by rw [hw12, hn12]; exact heap_at _ _ _ rfl
          have hI12 := hI11.grow hc12
          have hns : ns.length ≤ 1000 := by have := scanN_len D0 (D.take n); rw [← HSc.out, List.length_take] at this; omega
          obtain ⟨v13, w13, hr13, ho13, hc13, hb13⟩ := run_append_nm w12 22 w3.heap.size _ ns x1 n12 hI12.nms hb12 hns hI12.chg.size
          obtain ⟨a14, c14, rfl⟩ := ownsRow_shape ho13
          have hOn : (ns ++ [x1]).length = ns.length + 1 := by simp
          have hI13 := hI12.name ho13 hc13 hb13
          have hfr : scanN D0 (D.take (n + 1)) = scanN D0 (D.take n) ++ [x1] := by
           rw [List.take_succ_eq_append_getElem hlt, Hxd.out, scanN_snoc, Hfr.out.2]
           rfl
          rw [hOl] at hr11
          rw [hOn] at hr13
          have Hr11 := Lib.hid hr11
          have Hr13 := Lib.hid hr13
          have HW10 := Lib.hid (And.intro hw10 hn10)
          have HW12 := Lib.hid (And.intro hw12 hn12)
          have H13 := Lib.hid (And.intro hI13 (And.intro hfr (And.intro hOl hOn)))
          clear hen hs9 hc9 hw10 hn10 hc10 hb10 hc810 hI10 hes hr11 ho11 hc11 hb11 hOl hwd10 hI11 hsz5 hw12 hn12 hc12 hb12 hI12 hns hr13 ho13 hc13 hb13 hOn hI13 hfr hdx y0 y1 y2 l8
          go_wp2_with (first | (at_builtin; rw [← HW10.out.1, ← HW10.out.2]; refine wpList_append_run rfl _ _ _ rfl _ _ _ _ rfl rfl Hr11.out ?_) | (at_builtin; rw [← HW12.out.1, ← HW12.out.2]; refine wpList_append_run rfl _ _ _ rfl _ _ _ _ rfl rfl Hr13.out ?_))
          exact ⟨⟨n + 1, es ++ [en], ns ++ [x1], a13, c13, a14, c14, by omega, by go_num, by rw [H13.out.2.2.1], by rw [H13.out.2.2.2], Lib.hid (by rw [← H13.out.2.2.1, ← H13.out.2.2.2]; exact H13.out.1), Lib.hid (by rw [H13.out.2.1, ← HSc.out])⟩, by simp [intOf]; omega⟩
    · have hni : ∀ d ∈ D0, d.1 ≠ x1 := fun d hd e => hin ⟨d, hd, e⟩
      have hf := state_none H3.out.1 Hrs.out.2.1 hni
      rw [hf] at Hix
      have Hfr : Hid (eff D0 (x1, x2, x3) = (x1, x2, x3) ∧ fresh D0 (x1, x2, x3) = false) := Lib.hid (eff_miss fun d hd e1 => absurd e1 (hni d hd))
      clear hni hf hin
      go_upto_region 11 with (fail)
      rw [← HW5.out.1, ← HW5.out.2]
      clear q0 q1 q2 lg
      go_wp2_with fail
      refine Hix.out.mono ?_
      rintro e w6 ⟨rfl, hc6⟩
      have e5 := (hc6.block _ (lt_of_obj Hc5.out.2) (by simp)).trans Hc5.out.2
      have H6 := Lib.hid (And.intro (Hc5.out.1.trans hc6) e5)
      clear hc6 e5
      obtain ⟨w8, hw8⟩ : ∃ q, q = w6 := ⟨_, rfl⟩
      have hc8 : Chg [] w6 w8 := by rw [hw8]; exact Chg.refl _ _
      rw [← hw8]
      clear hw8
      have e8 := (hc8.block _ (lt_of_obj H6.out.2) (by simp)).trans H6.out.2
      have y0 : w8.cell? ⟨n5, 0, none⟩ = some (.string x1) := cell_of_heap e8 rfl
      have y1 : w8.cell? ⟨n5, 1, none⟩ = some (.int .i64 x2) := cell_of_heap e8 rfl
      have y2 : w8.cell? ⟨n5, 2, none⟩ = some (.string x3) := cell_of_heap e8 rfl
      have l8 := lt_of_cell y0
      have hI8 := (HI.out.grow H6.out.1).grow hc8
      have hown5 : ∀ g, (Value.slice a11 es.length c11).ownBlock = some g → g < n5 := fun g hg => by rw [HW5.out.2]; exact (ownsRow_ge HI.out.own hg).2
      have H8 := Lib.hid (And.intro hI8 (And.intro e8 hown5))
      clear hI8 e8 hc8 hown5
      go_wp2_with fail
      refine (newEntry_any x1 x2 x3 w8 (Hok.out.ok _ Hx.out).2.2).mono ?_
      rintro e w9 ⟨a9, c9, rfl, hs9, hc9⟩
      obtain ⟨en, hen⟩ : ∃ e, e = Ent.mk x1 (ck x3.data.toList : Nat) a9 (words x3).length c9 := ⟨_, rfl⟩
      obtain ⟨w10, hw10⟩ : ∃ q, q = w9.alloc (.cells #[.string x1, .int .u32 (ck x3.data.toList : Nat), .slice a9 (words x3).length c9] 70) := ⟨_, rfl⟩
      obtain ⟨n10, hn10⟩ : ∃ q, q = w9.heap.size := ⟨_, rfl⟩
      have hc10 : Chg [] w9 w10 := by rw [hw10]; exact (Chg.refl [] _).alloc _
      have hb10 : w10.heap[n10]? = some (.cells #[.string en.nm, .int .u32 en.sum, .slice en.wa en.wn en.wc] 70 (0, 0)) := by rw [hw10, hn10, hen]; exact heap_at _ _ _ rfl
      have hc810 := hc9.trans hc10
      have hI10 := H8.out.1.grow hc810
      have hes : es.length ≤ 1000 := by have := hI10.len; omega
      obtain ⟨v11, w11, hr11, ho11, hc11, hb11⟩ := run_append_ent w10 29 w3.heap.size _ es en n10 hI10.own hb10 hes hI10.chg.size
      obtain ⟨a13, c13, rfl⟩ := ownsRow_shape ho11
      have hOl : (es ++ [en]).length = es.length + 1 := by simp
      have hwd10 : StrsP (fun g => w8.heap.size ≤ g ∧ g < w10.heap.size) w10 en.wv (words x3) := by
       rw [hen]
       exact (hs9.same hc10).imp fun g hg => ⟨hg.1, Nat.lt_of_lt_of_le hg.2 hc10.size⟩
      have hdx : (D.map (eff D0))[n]'(by simpa using hlt) = (x1, x2, x3) := by rw [List.getElem_map, Hxd.out, Hfr.out.1]
      have hI11 := hI10.push (by simpa using hlt) hdx (en := en) (by rw [hen]; exact ⟨rfl, rfl⟩) w8.heap.size H8.out.1.chg.size hwd10 (fun g hg => (ownsRow_ge H8.out.1.own hg).2) (fun g hg => (ownsRow_ge H8.out.1.nms hg).2) ho11 hc11 hb11
      have hsz5 := hc810.size
      have k0 : w11.cell? ⟨n5, 0, none⟩ = some (.string x1) := cell_of_heap (((hc11.block _ (Nat.lt_of_lt_of_le l8 hsz5) (fun hm => Nat.lt_irrefl _ (H8.out.2.2 _ (by simpa using hm)))).trans (hc810.block _ l8 (by simp))).trans H8.out.2.1) rfl
      have l11 := lt_of_cell k0
      obtain ⟨w12, hw12⟩ : ∃ q, q = w11.alloc (.cells #[.string x1] 9) := ⟨_, rfl⟩
      obtain ⟨n12, hn12⟩ : ∃ q, q = w11.heap.size := ⟨_, rfl⟩
      have hc12 : Chg [] w11 w12 := by rw [hw12]; exact (Chg.refl [] _).alloc _
      have hb12 : w12.heap[n12]? = some (.cells #[.string x1] 9 (0, 0)) := by rw [hw12, hn12]; exact heap_at _ _ _ rfl
      have hI12 := hI11.grow hc12
      have hns : ns.length ≤ 1000 := by have := scanN_len D0 (D.take n); rw [← HSc.out, List.length_take] at this; omega
      obtain ⟨v13, w13, hr13, ho13, hc13, hb13⟩ := run_append_nm w12 22 w3.heap.size _ ns x1 n12 hI12.nms hb12 hns hI12.chg.size
      obtain ⟨a14, c14, rfl⟩ := ownsRow_shape ho13
      have hOn : (ns ++ [x1]).length = ns.length + 1 := by simp
      have hI13 := hI12.name ho13 hc13 hb13
      have hfr : scanN D0 (D.take (n + 1)) = scanN D0 (D.take n) ++ [x1] := by
       rw [List.take_succ_eq_append_getElem hlt, Hxd.out, scanN_snoc, Hfr.out.2]
       rfl
      rw [hOl] at hr11
      rw [hOn] at hr13
      have Hr11 := Lib.hid hr11
      have Hr13 := Lib.hid hr13
      have HW10 := Lib.hid (And.intro hw10 hn10)
      have HW12 := Lib.hid (And.intro hw12 hn12)
      have H13 := Lib.hid (And.intro hI13 (And.intro hfr (And.intro hOl hOn)))
      clear hen hs9 hc9 hw10 hn10 hc10 hb10 hc810 hI10 hes hr11 ho11 hc11 hb11 hOl hwd10 hI11 hsz5 hw12 hn12 hc12 hb12 hI12 hns hr13 ho13 hc13 hb13 hOn hI13 hfr hdx y0 y1 y2 l8
      go_wp2_with (first | (at_builtin; rw [← HW10.out.1, ← HW10.out.2]; refine wpList_append_run rfl _ _ _ rfl _ _ _ _ rfl rfl Hr11.out ?_) | (at_builtin; rw [← HW12.out.1, ← HW12.out.2]; refine wpList_append_run rfl _ _ _ rfl _ _ _ _ rfl rfl Hr13.out ?_))
      exact ⟨⟨n + 1, es ++ [en], ns ++ [x1], a13, c13, a14, c14, by omega, by go_num, by rw [H13.out.2.2.1], by rw [H13.out.2.2.2], Lib.hid (by rw [← H13.out.2.2.1, ← H13.out.2.2.2]; exact H13.out.1), Lib.hid (by rw [H13.out.2.1, ← HSc.out])⟩, by simp [intOf]; omega⟩
  · have hn1 : ¬ ((n : Int) < D.length) := by omega
    have hnl : n = D.length := by omega
    have hes : es.length ≤ 1000 := by have := HI.out.len; omega
    have hm : es.map (·.nm) = (D.map (eff D0)).map (·.1) := by have := HI.out.nm; rwa [hnl, List.take_of_length_le (by simp)] at this
    have Hm := Lib.hid (And.intro hes (And.intro hm hnl))
    have hns : ns.length < 4611686018427387904 := by have := scanN_len D0 (D.take n); rw [← HSc.out, List.length_take] at this; omega
    have Hns := Lib.hid hns
    clear hnl hes hm hns
    go_wp2_with fail
    refine (sortIdx_q wr w3.heap.size (fun g => w3.heap.size ≤ g ∧ g < wr.heap.size ∧ (Value.slice a12 ns.length c12).ownBlock ≠ some g) (D.map (eff D0)) _ es HI.out.own (fun g hg => ⟨(ownsRow_ge HI.out.own hg).1, (ownsRow_ge HI.out.own hg).2, HI.out.ne g hg⟩) Hm.out.1 (by rw [eff_names]; exact Hok.out.nd) Hm.out.2.1 (fun e he => (HI.out.ents e he).mono (ChgP.refl (fun _ => False) _) (fun _ _ h => h) (fun g hg => ⟨hg.1, hg.2.2.1, hg.2.2.2, hg.2.1⟩))).mono ?_
    rintro e w9 ⟨rfl, I, hI, hx, hc9⟩
    have hnm9 : OwnS w9 w3.heap.size (.slice a12 ns.length c12) ns := HI.out.nms.kept hc9.toP (fun g hg hm => HI.out.ne g (by simpa using hm) hg)
    have hc9' : Chg [] w3 w9 := HI.out.chg.comp hc9 fun g hg => Or.inr (ownsRow_ge HI.out.own (by simpa using hg)).1
    have H9 := Lib.hid (And.intro hI (And.intro hx (And.intro hnm9 (And.intro hc9' hc9.size))))
    clear hI hx hc9 hnm9 hc9'
    go_wp2_with fail
    refine (sortStrs_any _ ns w3.heap.size w9 H9.out.2.2.1 Hns.out).mono ?_
    rintro e w10 ⟨rfl, hs10, hc10⟩
    have H10 := Lib.hid (And.intro hs10 hc10)
    clear hs10 hc10
    go_wp2_with fail
    go_ret3
    have h3 := H3.out.2.2.size
    have h9 := H9.out.2.2.2.2
    have h10 := H10.out.2.size
    refine ⟨_, _, I, srt ns, rfl, H9.out.1, (H9.out.2.1.kept H10.out.2.toP (fun g hg hm => hg.2.2 (by simpa using hm)) (fun g hg hm => hg.2.2 (by simpa using hm))).imp (fun g hg => ⟨by have := hg.1; omega, by have := hg.2.1; omega⟩) (fun g hg => ⟨by have := hg.1; omega, by have := hg.2.1; omega⟩), H10.out.1.imp (fun g hg => ⟨by have := hg.1; omega, by have := hg.2; omega⟩), ?_, (H3.out.2.2.trans H9.out.2.2.2.1).comp H10.out.2 fun g hg => Or.inr ?_⟩
    · have := HSc.out
      rw [Hm.out.2.2, List.take_length] at this
      rw [← this]
      exact srt_perm ns
    · have := (ownsRow_ge H9.out.2.2.1 (show (Value.slice a12 ns.length c12).ownBlock = some g by simpa using hg)).1
      omega
end Go.Proofs.YtjlknaahpjiibaaGreatDoor
