/- The assembler's Add: the first chunk. -/
import Derived.Test.YtlhngcpodkiafaaPrgK
import Derived.Maps.OwnSet
namespace Go.Proofs.Ytlhngcpodkiafaa
open Go.RowKit Go.ChangeMaps
set_option linter.unusedVariables false
theorem look_nil2 (q : Int) (h : In64 q) (w : World) : (Instr.lookup 53 (.map none) (.int .i64 q) true).run Try.prog w = .ok (.tuple #[czero, .bool false]) w :=
  Maps.look_nil (P := Try.prog) (w := w) true ikeyed Try.underlying53 (chunk_zero w) (Maps.keyOf_int_mk Try.underlying3 (WalkArith.wf_i64 h))
/-- the assembler behind the making of the token's map -/
theorem first_made {pa bo : Nat} {tok : Int} {w : World} {o : Obj} (h : AsAt w pa bo tok none) (hm : MapAt Try.prog 3 ik (setBlock (w.alloc (.map #[] 0)).drew.drew bo o) bo [(tok, .map (some w.heap.size))]) :
    AsAt (setBlock (w.alloc (.map #[] 0)).drew.drew bo o) pa bo tok (some (w.heap.size, [])) ∧ Chg [bo] w (setBlock (w.alloc (.map #[] 0)).drew.drew bo o) := by
  have hbo := h.2.lt
  have c1 : Chg [bo] w (setBlock (w.alloc (.map #[] 0)).drew.drew bo o) := ((((Chg.refl [bo] w).alloc _).drew).drew).setBlock (Or.inl (by simp)) o
  refine ⟨⟨(c1.block pa (lt_of_obj h.1) (fun hk => ?_)).trans h.1, hm, ?_, by omega, by simp⟩, c1⟩
  · have : pa = bo := by simpa using hk
    subst this
    obtain ⟨arr, clock, hb, _⟩ := h.2
    have h1 := h.1
    rw [hb] at h1; cases h1
  · refine (MapAt.made Try.prog 3 ik w).kept (S := [bo]) ((((Chg.refl _ _).drew).drew).setBlock (Or.inl (by simp)) o) (by simp; omega)
set_option maxRecDepth 100000 in
set_option maxHeartbeats 2000000 in
theorem add_first (pa bo : Nat) (tok q : Int) (la : Bool) (a : Option Addr) (cap : Nat) (xs : List Int) (w : World) (h : AsAt w pa bo tok none) (ht0 : 0 ≤ tok) (ht : tok ≤ 9223372036854775807) (hq0 : 0 ≤ q) (hq1 : q < 1000)
    (hI : Ints w (.slice a xs.length cap) xs) (hn : xs.length ≤ 1000) :
    Calls Try.prog 11 #[.pointer (some ⟨pa, 0, none⟩), .agg #[.int .i64 tok, .int .i64 q, .bool la, .slice a xs.length cap]] w fun e w' =>
      ∃ bi a' cap', e = .returned (.tuple #[.bool true, .int .i64 0]) ∧ AsAt w' pa bo tok (some (bi, [(q, ⟨la, a', cap', xs⟩)])) ∧ w.heap.size ≤ bi ∧ Chg [bo] w w' := by
  have l1 : ∀ w', Chg [] w w' → (Instr.lookup 48 (.map (some bo)) (.int .i64 tok) false).run Try.prog w' = .ok (.map none) w' := fun w' hc => (h.same hc).look ⟨by omega, ht⟩
  have l2 : ∀ w', Chg [] w w' → (Instr.lookup 53 (.map none) (.int .i64 q) true).run Try.prog w' = .ok (.tuple #[czero, .bool false]) w' := fun w' hc' => look_nil2 q ⟨by omega, by omega⟩ w'
  have c0 : w.cell? ⟨pa, 0, none⟩ = some (.map (some bo)) := cell_of_heap h.blk rfl
  have hpa := lt_of_cell c0
  unfold czero at l2
  have m1 := fun o1 => l1 _ ((Chg.refl [] w).alloc o1).drew
  have m2 := fun o1 o2 => l1 _ (((Chg.refl [] w).alloc o1).alloc o2).drew
  have m3 := fun o1 => l2 _ ((Chg.refl [] w).alloc o1).drew
  have m4 := fun o1 o2 => l2 _ (((Chg.refl [] w).alloc o1).alloc o2).drew
  have HI := Lib.hid hI
  have H := Lib.hid h
  clear l1 l2 hI h
  have hpa' : pa < w.heap.size + 1 := Nat.lt_succ_of_lt hpa
  go_enter Try.func11, Try.ntmps11
  go_wp2
  go_region
  go_wp2_with fail
  clear m1 m2 m3 m4
  refine (bounds_any pa bo tok _ _ (H.out.same (by exact (((Chg.refl [] w).alloc _).alloc _).drew)) ⟨by omega, ht⟩ (by simp [ste])).mono ?_
  rintro e w1 ⟨f, l, rfl, hbd, hc1⟩
  obtain ⟨rfl, rfl⟩ : f = -1 ∧ l = -1 := by
    simp only [ste] at hbd
    refine ⟨hbd.1.elim (fun h => h.1) (fun ⟨c, h, _⟩ => by simp at h), hbd.2.2.elim (fun h => h.1) (fun ⟨c, h⟩ => by simp at h)⟩
  have C1 := Lib.hid (((((Chg.refl [] w).alloc (.cells #[.int .i64 tok, .int .i64 q, .bool la, .slice a xs.length cap] 39)).alloc (.cells #[.int .i64 0, .int .i64 0, .bool false, .slice none 0 0] 39)).drew).new hc1)
  have hb1 := hc1.block w.heap.size (by simp; omega) (by simp)
  have hbx : w1.heap[w.heap.size]? = some (.cells #[.int .i64 tok, .int .i64 q, .bool la, .slice a xs.length cap] 39) := by
    rw [hb1, heap_drew, heap_past _ _ _ (by simp), heap_at _ _ _ rfl]
  have p0 : w1.cell? ⟨w.heap.size, 0, none⟩ = some (.int .i64 tok) := cell_of_heap hbx rfl
  have p1 : w1.cell? ⟨w.heap.size, 1, none⟩ = some (.int .i64 q) := cell_of_heap hbx rfl
  have p2 : w1.cell? ⟨w.heap.size, 2, none⟩ = some (.bool la) := cell_of_heap hbx rfl
  have p3 : w1.cell? ⟨w.heap.size, 3, none⟩ = some (.slice a xs.length cap) := cell_of_heap hbx rfl
  have f3 : w1.frozen? ⟨w.heap.size, 3, none⟩ = false := frozen_of_heap hbx
  have c1 : w1.cell? ⟨pa, 0, none⟩ = some (.map (some bo)) := (C1.out.cell (p := ⟨pa, 0, none⟩) hpa (by simp)).trans c0
  have H1 := Lib.hid (H.out.same C1.out)
  have n1 := H1.out.look (tok := tok) ⟨by omega, ht⟩
  simp only [stv] at n1
  have n1' : (Instr.lookup 48 (.map (some bo)) (.int .i64 tok) false).run Try.prog w1.drew = .ok (.map none) w1.drew := (H1.out.same ((Chg.refl [] w1).drew)).look ⟨by omega, ht⟩
  have hnil := fun w : World => run_eql_map_nil (P := Try.prog) w 53 _ _ none Try.underlying53
  have Hbx := Lib.hid hbx
  clear hc1 hb1 hbx hbd
  cases la
  · skip
    go_wp2
    go_region
    go_wp2
    have hmm := @run_makeMap Try.prog
    have hk2 : MapAt Try.prog 3 ik (w1.alloc (.map #[] 0)).drew.drew bo [] := H1.out.2.kept (S := []) ((((Chg.refl [] w1).alloc _).drew).drew) (by simp)
    obtain ⟨o, hrun, hmap⟩ := hk2.update ikeyed ik_inj Try.underlying48 (x := tok) (ikOk ⟨by omega, ht⟩) (.map (some w1.heap.size))
    obtain ⟨hA4, hc4⟩ := first_made H1.out hmap
    unfold ik at hrun
    have HA4 := Lib.hid hA4
    have Hc4 := Lib.hid hc4
    have hbol : bo < w.heap.size := H.out.2.lt
    have p0a := (((Chg.refl [] w1).alloc (.map #[] 0)).cell (p := ⟨w.heap.size, 0, none⟩) (lt_of_cell p0) (by simp)).trans p0
    have c1a := (((Chg.refl [] w1).alloc (.map #[] 0)).cell (p := ⟨pa, 0, none⟩) (lt_of_cell c1) (by simp)).trans c1
    clear hk2 hmap hA4 hc4
    go_region
    clear p0a c1a
    obtain ⟨w4, hw4⟩ : ∃ x, x = setBlock (w1.alloc (.map #[] 0)).drew.drew bo o := ⟨_, rfl⟩
    rw [← hw4] at HA4 Hc4 ⊢
    clear hw4 hrun
    have hnb : w.heap.size ∉ [bo] := by simp; omega
    have hbx4 : w4.heap[w.heap.size]? = w1.heap[w.heap.size]? := Hc4.out.block w.heap.size (lt_of_cell p0) hnb
    have s3 : w4.cell? ⟨w.heap.size, 3, none⟩ = some (.slice a xs.length cap) := (World.cell?_of_block (w := w1) (a := ⟨w.heap.size, 3, none⟩) hbx4).trans p3
    clear n1 n1' hnil hmm c1
    go_wp2_with fail
    have hI1 := HI.out.same C1.out
    have hI4x := hI1.kept Hc4.out (fun k hk => by
      obtain rfl := List.mem_singleton.1 hk
      obtain ⟨arr, clock, hmb, _⟩ := H1.out.2
      exact NotE.of_heap hmb (by simp))
    refine (slicesClone _ _ xs hI4x (by omega)).mono ?_
    rintro e w2 ⟨a2, cp2, rfl, hi2, hc2⟩
    have hW1 : w1.heap.size ≤ w4.heap.size := Hc4.out.size
    have hWC := C1.out.size
    have hbx2 : w2.heap[w.heap.size]? = w1.heap[w.heap.size]? := (hc2.block w.heap.size (lt_of_cell s3) (by simp)).trans hbx4
    have r0 : w2.cell? ⟨w.heap.size, 0, none⟩ = some (.int .i64 tok) := (World.cell?_of_block (w := w1) (a := ⟨w.heap.size, 0, none⟩) hbx2).trans p0
    have r1 : w2.cell? ⟨w.heap.size, 1, none⟩ = some (.int .i64 q) := (World.cell?_of_block (w := w1) (a := ⟨w.heap.size, 1, none⟩) hbx2).trans p1
    have r2 := (World.cell?_of_block (w := w1) (a := ⟨w.heap.size, 2, none⟩) hbx2).trans p2
    have r3 : w2.cell? ⟨w.heap.size, 3, none⟩ = some (.slice a xs.length cap) := (World.cell?_of_block (w := w1) (a := ⟨w.heap.size, 3, none⟩) hbx2).trans p3
    have rf : w2.frozen? ⟨w.heap.size, 3, none⟩ = false := (World.frozen?_of_block (w := w1) (a := ⟨w.heap.size, 3, none⟩) hbx2).trans f3
    have hA2 := HA4.out.same hc2
    have rc : w2.cell? ⟨pa, 0, none⟩ = some (.map (some bo)) := cell_of_heap hA2.blk rfl
    have hm2 : ∃ cs, w2.heap[w.heap.size]? = some (.cells cs 39) := ⟨_, hbx2.trans Hbx.out⟩
    have hne : w.heap.size ≠ pa := by omega
    have hz1 : w.heap.size < w1.heap.size := lt_of_cell p0
    have h3 := hA2.kept (w' := (w2.setCell ⟨w.heap.size, 3, none⟩ (.slice a2 xs.length cp2)).drew) (S := [w.heap.size]) (((Chg.refl _ w2).setCell (Or.inl (by simp)) _).drew) (by simp; omega)
      (by simp; omega) (fun s hs => by cases hs; simp; omega) (fun k hk => by obtain rfl := List.mem_singleton.1 hk; obtain ⟨cs, hcs⟩ := hm2; exact NotE.of_heap hcs (by simp))
    have t1 := h3.look (tok := tok) ⟨by omega, ht⟩
    simp only [stv] at t1
    obtain ⟨o, hrun, hmap⟩ := h3.2.2.1.update ikeyed ik_inj Try.underlying53 (x := q) (ikOk ⟨by omega, by omega⟩) (CQ.val tok q ⟨false, a2, cp2, xs⟩)
    have hend := add_end2 (by omega) (by omega) HA4.out hc2 hm2 hi2 _ hmap
    unfold CQ.val ik at hrun
    simp only at hrun
    have hchg : Chg [bo] w (setBlock (w2.setCell ⟨w.heap.size, 3, none⟩ (.slice a2 xs.length cp2)).drew w1.heap.size o) :=
      (C1.out.nil.trans Hc4.out).comp hend.2 (fun k hk => by
        rcases List.mem_cons.1 hk with rfl | hk
        · exact Or.inr (by omega)
        · have := List.mem_singleton.1 hk; exact Or.inr (by omega))
    have Hend := Lib.hid (And.intro hend.1 (And.intro (show w.heap.size ≤ w1.heap.size by omega) hchg))
    clear hend hchg hmap hm2 hbx2 hc2 hi2 hA2 hI1 hI4x hbx4
    go_wp2
    go_region
    go_wp2
    go_ret2
    exact ⟨_, _, _, rfl, Hend.out⟩
  · skip
    go_wp2
    go_region
    go_wp2
    have hmm := @run_makeMap Try.prog
    have hk2 : MapAt Try.prog 3 ik (w1.alloc (.map #[] 0)).drew.drew bo [] := H1.out.2.kept (S := []) ((((Chg.refl [] w1).alloc _).drew).drew) (by simp)
    obtain ⟨o, hrun, hmap⟩ := hk2.update ikeyed ik_inj Try.underlying48 (x := tok) (ikOk ⟨by omega, ht⟩) (.map (some w1.heap.size))
    obtain ⟨hA4, hc4⟩ := first_made H1.out hmap
    unfold ik at hrun
    have HA4 := Lib.hid hA4
    have Hc4 := Lib.hid hc4
    have hbol : bo < w.heap.size := H.out.2.lt
    have p0a := (((Chg.refl [] w1).alloc (.map #[] 0)).cell (p := ⟨w.heap.size, 0, none⟩) (lt_of_cell p0) (by simp)).trans p0
    have c1a := (((Chg.refl [] w1).alloc (.map #[] 0)).cell (p := ⟨pa, 0, none⟩) (lt_of_cell c1) (by simp)).trans c1
    clear hk2 hmap hA4 hc4
    go_region
    clear p0a c1a
    obtain ⟨w4, hw4⟩ : ∃ x, x = setBlock (w1.alloc (.map #[] 0)).drew.drew bo o := ⟨_, rfl⟩
    rw [← hw4] at HA4 Hc4 ⊢
    clear hw4 hrun
    have hnb : w.heap.size ∉ [bo] := by simp; omega
    have hbx4 : w4.heap[w.heap.size]? = w1.heap[w.heap.size]? := Hc4.out.block w.heap.size (lt_of_cell p0) hnb
    have s3 : w4.cell? ⟨w.heap.size, 3, none⟩ = some (.slice a xs.length cap) := (World.cell?_of_block (w := w1) (a := ⟨w.heap.size, 3, none⟩) hbx4).trans p3
    clear n1 n1' hnil hmm c1
    go_wp2_with fail
    have hI1 := HI.out.same C1.out
    have hI4x := hI1.kept Hc4.out (fun k hk => by
      obtain rfl := List.mem_singleton.1 hk
      obtain ⟨arr, clock, hmb, _⟩ := H1.out.2
      exact NotE.of_heap hmb (by simp))
    refine (slicesClone _ _ xs hI4x (by omega)).mono ?_
    rintro e w2 ⟨a2, cp2, rfl, hi2, hc2⟩
    have hW1 : w1.heap.size ≤ w4.heap.size := Hc4.out.size
    have hWC := C1.out.size
    have hbx2 : w2.heap[w.heap.size]? = w1.heap[w.heap.size]? := (hc2.block w.heap.size (lt_of_cell s3) (by simp)).trans hbx4
    have r0 : w2.cell? ⟨w.heap.size, 0, none⟩ = some (.int .i64 tok) := (World.cell?_of_block (w := w1) (a := ⟨w.heap.size, 0, none⟩) hbx2).trans p0
    have r1 : w2.cell? ⟨w.heap.size, 1, none⟩ = some (.int .i64 q) := (World.cell?_of_block (w := w1) (a := ⟨w.heap.size, 1, none⟩) hbx2).trans p1
    have r2 := (World.cell?_of_block (w := w1) (a := ⟨w.heap.size, 2, none⟩) hbx2).trans p2
    have r3 : w2.cell? ⟨w.heap.size, 3, none⟩ = some (.slice a xs.length cap) := (World.cell?_of_block (w := w1) (a := ⟨w.heap.size, 3, none⟩) hbx2).trans p3
    have rf : w2.frozen? ⟨w.heap.size, 3, none⟩ = false := (World.frozen?_of_block (w := w1) (a := ⟨w.heap.size, 3, none⟩) hbx2).trans f3
    have hA2 := HA4.out.same hc2
    have rc : w2.cell? ⟨pa, 0, none⟩ = some (.map (some bo)) := cell_of_heap hA2.blk rfl
    have hm2 : ∃ cs, w2.heap[w.heap.size]? = some (.cells cs 39) := ⟨_, hbx2.trans Hbx.out⟩
    have hne : w.heap.size ≠ pa := by omega
    have hz1 : w.heap.size < w1.heap.size := lt_of_cell p0
    have h3 := hA2.kept (w' := (w2.setCell ⟨w.heap.size, 3, none⟩ (.slice a2 xs.length cp2)).drew) (S := [w.heap.size]) (((Chg.refl _ w2).setCell (Or.inl (by simp)) _).drew) (by simp; omega)
      (by simp; omega) (fun s hs => by cases hs; simp; omega) (fun k hk => by obtain rfl := List.mem_singleton.1 hk; obtain ⟨cs, hcs⟩ := hm2; exact NotE.of_heap hcs (by simp))
    have t1 := h3.look (tok := tok) ⟨by omega, ht⟩
    simp only [stv] at t1
    obtain ⟨o, hrun, hmap⟩ := h3.2.2.1.update ikeyed ik_inj Try.underlying53 (x := q) (ikOk ⟨by omega, by omega⟩) (CQ.val tok q ⟨true, a2, cp2, xs⟩)
    have hend := add_end2 (by omega) (by omega) HA4.out hc2 hm2 hi2 _ hmap
    unfold CQ.val ik at hrun
    simp only at hrun
    have hchg : Chg [bo] w (setBlock (w2.setCell ⟨w.heap.size, 3, none⟩ (.slice a2 xs.length cp2)).drew w1.heap.size o) :=
      (C1.out.nil.trans Hc4.out).comp hend.2 (fun k hk => by
        rcases List.mem_cons.1 hk with rfl | hk
        · exact Or.inr (by omega)
        · have := List.mem_singleton.1 hk; exact Or.inr (by omega))
    have Hend := Lib.hid (And.intro hend.1 (And.intro (show w.heap.size ≤ w1.heap.size by omega) hchg))
    clear hend hchg hmap hm2 hbx2 hc2 hi2 hA2 hI1 hI4x hbx4
    go_wp2
    go_region
    go_wp2
    go_ret2
    exact ⟨_, _, _, rfl, Hend.out⟩
end Go.Proofs.Ytlhngcpodkiafaa
