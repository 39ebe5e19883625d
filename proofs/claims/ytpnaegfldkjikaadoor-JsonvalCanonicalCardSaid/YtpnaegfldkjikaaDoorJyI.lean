/- JSON texts, any text: Decode. -/
import Derived.Test.YtpnaegfldkjikaaDoorJyH
import Derived.Test.YtpnaegfldkjikaaDoorJwD
namespace Go.Proofs.YtpnaegfldkjikaaDoor.Jv
open Go.RowKit Go.ChangeMaps Go.MapKept
set_option linter.unusedVariables false
set_option linter.unusedSimpArgs false
/-- what Decode does, on any text -/
def DeA (s : ByteArray) (w : World) (e : Ending) (w' : World) : Prop :=
  (∃ v' j f, e = .returned (.tuple #[v', .int .i64 0]) ∧ JN w.heap.size f w' v' j ∧ j.valid u8 = 0 ∧ j.enc.length ≤ s.size ∧ s.size ≤ 4000 ∧ Chg [] w w') ∨
  ∃ c : Int, c ≠ 0 ∧ e = .returned (.tuple #[.agg #[.int .i64 0, .int .i64 0, .string ⟨#[]⟩, .slice none 0 0, .slice none 0 0], .int .i64 c]) ∧ Chg [] w w'
set_option maxRecDepth 100000 in
set_option maxHeartbeats 16000000 in
theorem decode_big (s : ByteArray) (w : World) (hs : 4000 < s.size) : Calls Tryd.prog 13 #[.string s] w (DeA s w) := by
  have hs4 : decide ((4000 : Int) < s.size) = true := decide_eq_true (by omega)
  obtain ⟨b, hb⟩ : ∃ b, b = w.heap.size := ⟨_, rfl⟩
  obtain ⟨w1, hw1⟩ : ∃ x, x = (w.alloc (.cells #[.int .i64 0, .int .i64 0, .string ⟨#[]⟩, .slice none 0 0, .slice none 0 0] 25)).alloc (.cells #[.int .i64 2] 27) := ⟨_, rfl⟩
  have hc1 : Chg [] w w1 := by rw [hw1]; exact ((Chg.refl [] w).alloc _).alloc _
  have hb1 : w1.heap[b]? = some (.cells #[.int .i64 0, .int .i64 0, .string ⟨#[]⟩, .slice none 0 0, .slice none 0 0] 25 (0, 0)) := by
    rw [hw1, hb, heap_past _ _ _ (by simp)]
    exact heap_at _ _ _ rfl
  have he1 : w1.heap[b + 1]? = some (.cells #[.int .i64 2] 27 (0, 0)) := by
    rw [hw1, hb]
    exact heap_at _ _ _ (by simp)
  have Hfin : Hid (DeA s w (.returned (.tuple #[.agg #[.int .i64 0, .int .i64 0, .string ⟨#[]⟩, .slice none 0 0, .slice none 0 0], .int .i64 2])) w1) := Lib.hid (Or.inr ⟨2, by decide, rfl, hc1⟩)
  obtain ⟨r0, r1, r2, r3, r4⟩ := box_kept b hb1 (Chg.refl [] w1)
  have ev := cell_of_heap he1 (i := 0) rfl
  clear hc1 hb1 he1
  have Hr := Lib.hid (And.intro r0 (And.intro r1 (And.intro r2 (And.intro r3 (And.intro r4 ev)))))
  clear r0 r1 r2 r3 r4 ev
  go_enter_defers Tryd.func13, Tryd.ntmps13
  go_upto_region 3 with fail
  rw [← hw1, ← hb]
  clear hw1 hb
  obtain ⟨r0, r1, r2, r3, r4, ev⟩ := Hr.out
  simp [bodyPostD, Leaves, settle, results, Tryd.results13, go_sem, r0, r1, r2, r3, r4, ev]
  exact Hfin.out
set_option maxRecDepth 100000 in
set_option maxHeartbeats 16000000 in
theorem decode_small (s : ByteArray) (w : World) (hs : s.size ≤ 4000) (hT : Tb w) (hEr : Er w) :
    Calls Tryd.prog 13 #[.string s] w (DeA s w) := by
  have hsz : (s.size : Int) ≤ 4000 := by omega
  obtain ⟨b, hb⟩ : ∃ b, b = w.heap.size := ⟨_, rfl⟩
  obtain ⟨w1, hw1⟩ : ∃ x, x = ((w.alloc (.cells #[.int .i64 0, .int .i64 0, .string ⟨#[]⟩, .slice none 0 0, .slice none 0 0] 25)).alloc (.cells #[.int .i64 0] 27)).alloc (.cells #[.string s, .int .i64 0] 58) := ⟨_, rfl⟩
  have hc1 : Chg [] w w1 := by rw [hw1]; exact (((Chg.refl [] w).alloc _).alloc _).alloc _
  have H1 : Hid (DB (b + 1 + 1) b 0 0 s ev0 w w1) := Lib.hid ⟨by
    rw [hw1, hb]
    exact heap_at _ _ _ (by simp), by
    rw [hw1, hb, heap_past _ _ _ (by simp; omega), heap_past _ _ _ (by simp)]
    exact heap_at _ _ _ rfl, by
    rw [hw1, hb, heap_past _ _ _ (by simp)]
    exact heap_at _ _ _ (by simp), hc1, hb, rfl⟩
  have HE : Hid (DE (b + 1 + 1) w1) := Lib.hid ⟨hEr.new hc1, hT.new hc1, by
    obtain ⟨x, y, h1, h2, _⟩ := hEr
    have := lt_of_cell h2
    simp at this
    omega, by have := tb_lt hT; omega, by have := tb_lt hT; omega⟩
  have HTw := Lib.hid hT
  have hs4 : decide ((4000 : Int) < s.size) = false := decide_eq_false (by omega)
  have Hval : Hid (Calls Tryd.prog 25 #[.pointer (some ⟨b + 1 + 1, 0, none⟩)] w1 (ValA (b + 1 + 1) s 0 (s.size + 1) w1)) := Lib.hid (value_any (b + 1 + 1) s (by omega) (s.size + 1) w1 0 H1.out.ds (by omega) (by omega) HE.out)
  clear hc1 hT hEr
  go_enter_defers Tryd.func13, Tryd.ntmps13
  go_upto_region 5 with fail
  rw [← hw1, ← hb]
  clear hw1 hb
  go_wp2_with fail
  refine Hval.out.mono ?_
  rintro e w2 (⟨rfl, hc2⟩ | ⟨v2, j, q, rfl, hv2, hq, hqs, hd2, hc2⟩)
  · have hch : Chg [] w w2 := H1.out.chg.comp hc2 fun g hg => Or.inr (by have := List.mem_singleton.1 hg; have := H1.out.hb; omega)
    have hres : w2.heap[b]? = some (.cells #[.int .i64 ev0.k, .int .i64 ev0.n, .string ev0.t, .slice ev0.na ev0.nl ev0.nc, .slice ev0.ia ev0.il ev0.ic] 25 (0, 0)) := (hc2.block b (lt_of_obj H1.out.res) (by simp; omega)).trans H1.out.res
    have herr : w2.heap[b + 1]? = some (.cells #[.int .i64 0] 27 (0, 0)) := (hc2.block (b + 1) (lt_of_obj H1.out.err) (by simp)).trans H1.out.err
    have hp := dec1_panic w2 b ev0 0 hres herr
    have Hch := Lib.hid hch
    have Hp := Lib.hid hp
    clear hc2 hch hres herr hp
    refine leaves_cons (f := 24) (args := #[.pointer (some ⟨b, 0, none⟩), .pointer (some ⟨b + 1, 0, none⟩)]) (by simp) (by simp [go_sem]) ?_
    refine Hp.out.mono ?_
    rintro e u' w6 ⟨rfl, rfl, h7, h8, hc6⟩
    obtain ⟨r0, r1, r2, r3, r4⟩ := box_kept b h7 (Chg.refl [] w6)
    have ev := cell_of_heap h8 (i := 0) rfl
    have hfin : DeA s w (.returned (.tuple #[.agg #[.int .i64 0, .int .i64 0, .string ⟨#[]⟩, .slice none 0 0, .slice none 0 0], .int .i64 4])) w6 := by
      have hb := H1.out.hb
      exact Or.inr ⟨4, by decide, rfl, Hch.out.comp hc6 fun g hg => Or.inr (by simp at hg; omega)⟩
    have Hfin := Lib.hid hfin
    clear hfin h7 h8 hc6
    simp [Leaves, settle, results, Tryd.results13, go_sem, r0, r1, r2, r3, r4, ev]
    exact Hfin.out
  obtain ⟨e2, rfl⟩ := hv2.ev'
  have H2 := Lib.hid (H1.out.db hc2 hd2)
  have Hv2 := Lib.hid hv2
  have Hq := Lib.hid (And.intro hq hqs)
  obtain ⟨r0, r1, r2, r3, r4⟩ := box_kept b H2.out.res (Chg.refl [] w2)
  have fr := fun i => frozen_of_heap (i := i) H2.out.res
  have lr := lt_of_cell r0
  clear hv2 hd2 hc2 hq hqs
  unfold Ev.val
  go_wp2_with fail
  obtain ⟨w3, hw3⟩ : ∃ x, x = ((((w2.setCell ⟨b, 0, none⟩ (.int .i64 e2.k)).setCell ⟨b, 1, none⟩ (.int .i64 e2.n)).setCell ⟨b, 2, none⟩ (.string e2.t)).setCell ⟨b, 3, none⟩ (.slice e2.na e2.nl e2.nc)).setCell ⟨b, 4, none⟩ (.slice e2.ia e2.il e2.ic) := ⟨_, rfl⟩
  have H3 : Hid (DB (b + 1 + 1) b 0 q s e2 w w3) := Lib.hid (by rw [hw3]; exact H2.out.set)
  have Hv3 : Hid (JN w1.heap.size (s.size + 1) w3 e2.val j) := Lib.hid (by
    have hcs : Chg [b] w2 w3 := by rw [hw3]; exact st5_chg w2 b 0 e2
    have h1 := lt_of_obj H1.out.res
    exact (Hv2.out.kept hcs.toP fun g hg hm => by have := List.mem_singleton.1 hm; have := hg.1; omega).imp fun g hg => ⟨hg.1, Nat.lt_of_lt_of_le hg.2 hcs.size⟩)
  rw [← hw3]
  clear hw3 r0 r1 r2 r3 r4 fr lr
  refine (skip_any (b + 1 + 1) s q w3 H3.out.ds Hq.out.2 (by omega)).mono ?_
  rintro e w4 ⟨rfl, o', ho1, ho2, hd4, _, hc4⟩
  have H4 := Lib.hid (H3.out.db hc4 hd4)
  have Hv4 : Hid (JN w1.heap.size (s.size + 1) w4 e2.val j) := Lib.hid (by
    have h1 := lt_of_obj H1.out.ds
    exact (Hv3.out.kept hc4.toP fun g hg hm => by have := List.mem_singleton.1 hm; have := hg.1; omega).imp fun g hg => ⟨hg.1, Nat.lt_of_lt_of_le hg.2 hc4.size⟩)
  have c0 := H4.out.ds.c0
  have c1 := H4.out.ds.c1
  have lb := lt_of_cell c0
  obtain ⟨r0, r1, r2, r3, r4⟩ := box_kept b H4.out.res (Chg.refl [] w4)
  have fr := fun i => frozen_of_heap (i := i) H4.out.res
  have lr := lt_of_cell r0
  clear hd4 hc4 ho1 ho2
  by_cases hend : o' = s.size
  · subst hend
    go_wp2_with (go_at_call 27; refine (expect_any (b + 1 + 1) true w4).mono ?_; rintro e w5 ⟨rfl, rfl⟩)
    refine (Validate_any _ (s.size + 1) w5 j _ Hv4.out (HTw.out.new H4.out.chg) (fun g hg => hg.2)).mono ?_
    rintro e w6 ⟨rfl, hc6⟩
    have H6 := Lib.hid (H4.out.db (hc6.mono (by simp)) (H4.out.ds.new hc6))
    have Hv6 := Lib.hid (Hv4.out.same hc6)
    clear hc6 r0 r1 r2 r3 r4 fr lr c0 c1 lb
    obtain ⟨r0, r1, r2, r3, r4⟩ := box_kept b H6.out.res (Chg.refl [] w6)
    have fr := fun i => frozen_of_heap (i := i) H6.out.res
    have lr := lt_of_cell r0
    have ev := cell_of_heap H6.out.err (i := 0) rfl
    have fe := fun i => frozen_of_heap (i := i) H6.out.err
    have le := lt_of_cell ev
    obtain ⟨c, hcv⟩ : ∃ c, c = j.valid u8 := ⟨_, rfl⟩
    rw [← hcv]
    by_cases hz : c = 0
    · have Hv := Lib.hid (hcv.symm.trans hz)
      subst hz
      clear hcv
      go_wp2_with fail
      obtain ⟨w7, hw7⟩ : ∃ x, x = (((((w6.setCell ⟨b, 0, none⟩ (.int .i64 e2.k)).setCell ⟨b, 1, none⟩ (.int .i64 e2.n)).setCell ⟨b, 2, none⟩ (.string e2.t)).setCell ⟨b, 3, none⟩ (.slice e2.na e2.nl e2.nc)).setCell ⟨b, 4, none⟩ (.slice e2.ia e2.il e2.ic)).setCell ⟨b + 1, 0, none⟩ (.int .i64 0) := ⟨_, rfl⟩
      have hcs := st5_chg w6 b 0 e2
      have hset := H6.out.set (e' := e2)
      have h7 : w7.heap[b]? = some (.cells #[.int .i64 e2.k, .int .i64 e2.n, .string e2.t, .slice e2.na e2.nl e2.nc, .slice e2.ia e2.il e2.ic] 25 (0, 0)) := by
        rw [hw7]
        exact (heap_setCell_ne (st5 w6 b 0 e2) ⟨b + 1, 0, none⟩ (.int .i64 0) b (by simp)).trans hset.res
      have h8 : w7.heap[b + 1]? = some (.cells #[.int .i64 0] 27 (0, 0)) := by
        rw [hw7]
        exact heap_setCell_same (i := 0) hset.err (.int .i64 0)
      have hc7 : Chg [b, b + 1] w6 w7 := by
        rw [hw7]
        exact (hcs.mono (by simp)).setCell (p := ⟨b + 1, 0, none⟩) (Or.inl (by simp)) _
      rw [← hw7]
      clear hw7 hcs hset r0 r1 r2 r3 r4 fr lr ev fe le
      have hfin : DeA s w (.returned (.tuple #[e2.val, .int .i64 0])) w7 := by
        have h1 := lt_of_obj H1.out.ds
        have hb := H6.out.hb
        refine Or.inl ⟨_, j, s.size + 1, rfl, ?_, Hv.out, by have := Hq.out.1; have := Hq.out.2; omega, hs, H6.out.chg.comp hc7 fun g hg => Or.inr (by simp at hg; omega)⟩
        exact (Hv6.out.kept hc7.toP fun g hg hm => by simp at hm; have := hg.1; omega).imp fun g hg => ⟨by have := hg.1; omega, Nat.lt_of_lt_of_le hg.2 hc7.size⟩
      have Hfin := Lib.hid hfin
      obtain ⟨r0, r1, r2, r3, r4⟩ := box_kept b h7 (Chg.refl [] w7)
      have ev := cell_of_heap h8 (i := 0) rfl
      clear hfin h7 h8 hc7
      refine leaves_cons (f := 24) (args := #[.pointer (some ⟨b, 0, none⟩), .pointer (some ⟨b + 1, 0, none⟩)]) (by simp) (by simp [go_sem]) ?_
      refine (dec1_idle w7 _ _).mono ?_
      rintro e u' w'' ⟨rfl, rfl, rfl⟩
      simp [Leaves, settle, results, Tryd.results13, go_sem, r0, r1, r2, r3, r4, ev]
      exact Hfin.out
    · have hzb : (c != 0) = true := by simpa using hz
      have Hz := Lib.hid hz
      clear hcv hz
      go_wp2_with fail
      obtain ⟨w7, hw7⟩ : ∃ x, x = (((((w6.setCell ⟨b, 0, none⟩ (.int .i64 0)).setCell ⟨b, 1, none⟩ (.int .i64 0)).setCell ⟨b, 2, none⟩ (.string ⟨#[]⟩)).setCell ⟨b, 3, none⟩ (.slice none 0 0)).setCell ⟨b, 4, none⟩ (.slice none 0 0)).setCell ⟨b + 1, 0, none⟩ (.int .i64 c) := ⟨_, rfl⟩
      have hcs := st5_chg w6 b 0 ⟨0, 0, ⟨#[]⟩, none, 0, 0, none, 0, 0⟩
      have hset := H6.out.set (e' := ⟨0, 0, ⟨#[]⟩, none, 0, 0, none, 0, 0⟩)
      have h7 : w7.heap[b]? = some (.cells #[.int .i64 0, .int .i64 0, .string ⟨#[]⟩, .slice none 0 0, .slice none 0 0] 25 (0, 0)) := by
        rw [hw7]
        exact (heap_setCell_ne (st5 w6 b 0 ⟨0, 0, ⟨#[]⟩, none, 0, 0, none, 0, 0⟩) ⟨b + 1, 0, none⟩ (.int .i64 c) b (by simp)).trans hset.res
      have h8 : w7.heap[b + 1]? = some (.cells #[.int .i64 c] 27 (0, 0)) := by
        rw [hw7]
        exact heap_setCell_same (i := 0) hset.err (.int .i64 c)
      have hc7 : Chg [b, b + 1] w6 w7 := by
        rw [hw7]
        exact (hcs.mono (by simp)).setCell (p := ⟨b + 1, 0, none⟩) (Or.inl (by simp)) _
      rw [← hw7]
      clear hw7 hcs hset r0 r1 r2 r3 r4 fr lr ev fe le
      have hfin : DeA s w (.returned (.tuple #[.agg #[.int .i64 0, .int .i64 0, .string ⟨#[]⟩, .slice none 0 0, .slice none 0 0], .int .i64 c])) w7 := by
        have hb := H6.out.hb
        exact Or.inr ⟨c, Hz.out, rfl, H6.out.chg.comp hc7 fun g hg => Or.inr (by simp at hg; omega)⟩
      have Hfin := Lib.hid hfin
      obtain ⟨r0, r1, r2, r3, r4⟩ := box_kept b h7 (Chg.refl [] w7)
      have ev := cell_of_heap h8 (i := 0) rfl
      clear hfin h7 h8 hc7
      refine leaves_cons (f := 24) (args := #[.pointer (some ⟨b, 0, none⟩), .pointer (some ⟨b + 1, 0, none⟩)]) (by simp) (by simp [go_sem]) ?_
      refine (dec1_idle w7 _ _).mono ?_
      rintro e u' w'' ⟨rfl, rfl, rfl⟩
      simp [Leaves, settle, results, Tryd.results13, go_sem, r0, r1, r2, r3, r4, ev]
      exact Hfin.out
  · have hee : ((o' : Int) == s.size) = false := by simp; omega
    go_wp2_with (go_at_call 27; refine (expect_any (b + 1 + 1) false w4).mono ?_; rintro e w5 ⟨rfl, rfl⟩)
    have hp := dec1_panic w5 b e2 0 H4.out.res H4.out.err
    clear r0 r1 r2 r3 r4 fr lr c0 c1 lb hee
    refine leaves_cons (f := 24) (args := #[.pointer (some ⟨b, 0, none⟩), .pointer (some ⟨b + 1, 0, none⟩)]) (by simp) (by simp [go_sem]) ?_
    refine hp.mono ?_
    rintro e u' w6 ⟨rfl, rfl, h7, h8, hc6⟩
    obtain ⟨r0, r1, r2, r3, r4⟩ := box_kept b h7 (Chg.refl [] w6)
    have ev := cell_of_heap h8 (i := 0) rfl
    have hfin : DeA s w (.returned (.tuple #[.agg #[.int .i64 0, .int .i64 0, .string ⟨#[]⟩, .slice none 0 0, .slice none 0 0], .int .i64 4])) w6 := by
      have hb := H4.out.hb
      exact Or.inr ⟨4, by decide, rfl, H4.out.chg.comp hc6 fun g hg => Or.inr (by simp at hg; omega)⟩
    have Hfin := Lib.hid hfin
    clear hfin h7 h8 hc6 hp
    simp [Leaves, settle, results, Tryd.results13, go_sem, r0, r1, r2, r3, r4, ev]
    exact Hfin.out
/-- Decode, on any text -/
theorem Decode_any (s : ByteArray) (w : World) (hT : Tb w) (hEr : Er w) : Calls Tryd.prog 13 #[.string s] w (DeA s w) := by
  by_cases h : s.size ≤ 4000
  · exact decode_small s w h hT hEr
  · exact decode_big s w (by omega)
end Go.Proofs.YtpnaegfldkjikaaDoor.Jv
