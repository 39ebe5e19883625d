/- The assembler's Add: a new chunk, where others have come. -/
import Derived.Test.YtlhngcpodkiafaaPrgJ
namespace Go.Proofs.Ytlhngcpodkiafaa
open Go.RowKit Go.ChangeMaps
set_option linter.unusedVariables false
theorem add_end2 {pa bo bi m : Nat} {tok q : Int} {es : List CE} {c : CQ} {w w2 : World} {o : Obj} (hmpa : m ≠ pa) (hmbo : m ≠ bo) (h : AsAt w pa bo tok (some (bi, es))) (hc : Chg [] w w2) (hm2 : ∃ cs, w2.heap[m]? = some (.cells cs 39)) (hI : Ints w2 (.slice c.a c.xs.length c.cap) c.xs) (u : Value)
    (hu : MapAt Try.prog 3 ik (setBlock (w2.setCell ⟨m, 3, none⟩ u).drew bi o) bi (ups (cvals tok es) q (c.val tok q))) :
    AsAt (setBlock (w2.setCell ⟨m, 3, none⟩ u).drew bi o) pa bo tok (some (bi, ups es q c)) ∧ Chg [bi, m] w (setBlock (w2.setCell ⟨m, 3, none⟩ u).drew bi o) := by
  obtain ⟨k1, k2, k3, k4, k5⟩ := h
  have hbi := k3.lt
  have hbo := k2.lt
  have hpa := lt_of_obj k1
  have c1 : Chg [bi, m] w (setBlock (w2.setCell ⟨m, 3, none⟩ u).drew bi o) := ((hc.nil.setCell (Or.inl (by simp)) u).drew).setBlock (Or.inl (by simp)) o
  have c2 : Chg [bi, m] w2 (setBlock (w2.setCell ⟨m, 3, none⟩ u).drew bi o) := (((Chg.refl _ w2).setCell (Or.inl (by simp)) u).drew).setBlock (Or.inl (by simp)) o
  have hne : ∀ k ∈ [bi, m], NotE 3 w2 k := by
    intro k hk
    rcases List.mem_cons.1 hk with rfl | hk
    · obtain ⟨arr, clock, hb, _⟩ := k3
      exact NotE.of_heap ((hc.block k hbi (by simp)).trans hb) (by simp)
    · obtain rfl := List.mem_singleton.1 hk
      obtain ⟨cs, hcs⟩ := hm2
      exact NotE.of_heap hcs (by simp)
  have hnpa : pa ∉ [bi, m] := by
    intro hk
    rcases List.mem_cons.1 hk with rfl | hk
    · obtain ⟨arr, clock, hb, _⟩ := k3
      rw [hb] at k1; cases k1
    · exact hmpa (List.mem_singleton.1 hk).symm
  have hnbo : bo ∉ [bi, m] := by
    intro hk
    rcases List.mem_cons.1 hk with rfl | hk
    · exact k4 rfl
    · exact hmbo (List.mem_singleton.1 hk).symm
  refine ⟨⟨(c1.block pa hpa hnpa).trans k1, k2.kept c1 hnbo, by rw [← ups_cvals]; exact hu, k4, fun p hp => ?_⟩, c1⟩
  rcases mem_ups hp with rfl | hp
  · exact hI.kept c2 hne
  · exact ((k5 p hp).same hc).kept c2 hne
theorem add_end {pa bo bi m : Nat} {tok q : Int} {es : List CE} {c : CQ} {w w2 : World} {o : Obj} (hm : m = w.heap.size) (h : AsAt w pa bo tok (some (bi, es))) (hc : Chg [] w w2) (hm2 : ∃ cs, w2.heap[m]? = some (.cells cs 39)) (hI : Ints w2 (.slice c.a c.xs.length c.cap) c.xs) (u : Value)
    (hu : MapAt Try.prog 3 ik (setBlock (w2.setCell ⟨m, 3, none⟩ u).drew bi o) bi (ups (cvals tok es) q (c.val tok q))) :
    AsAt (setBlock (w2.setCell ⟨m, 3, none⟩ u).drew bi o) pa bo tok (some (bi, ups es q c)) ∧ Chg [bi] w (setBlock (w2.setCell ⟨m, 3, none⟩ u).drew bi o) := by
  have hbo := h.2.1.lt
  have hpa := lt_of_obj h.1
  obtain ⟨h1, h2⟩ := add_end2 (by omega) (by omega) h hc hm2 hI u hu
  refine ⟨h1, (Chg.refl [bi] w).comp h2 (fun k hk => ?_)⟩
  rcases List.mem_cons.1 hk with rfl | hk
  · exact Or.inl (by simp)
  · have := List.mem_singleton.1 hk; exact Or.inr (by omega)
set_option maxRecDepth 100000 in
set_option maxHeartbeats 2000000 in
theorem add_more (pa bo bi : Nat) (tok q : Int) (es : List CE) (la : Bool) (a : Option Addr) (cap : Nat) (xs : List Int) (w : World) (h : AsAt w pa bo tok (some (bi, es))) (ht0 : 0 ≤ tok) (ht : tok ≤ 9223372036854775807) (hq0 : 0 ≤ q) (hq1 : q < 1000)
    (hes : ∀ p ∈ es, 0 ≤ p.1 ∧ p.1 < 1000) (hnew : aget es q = none) (hok : ∀ f l, Bd es f l → (f < 0 ∨ q ≤ f) ∧ (la = false ∨ l ≤ q)) (hI : Ints w (.slice a xs.length cap) xs) (hn : xs.length ≤ 1000) :
    Calls Try.prog 11 #[.pointer (some ⟨pa, 0, none⟩), .agg #[.int .i64 tok, .int .i64 q, .bool la, .slice a xs.length cap]] w fun e w' =>
      ∃ a' cap', e = .returned (.tuple #[.bool true, .int .i64 0]) ∧ AsAt w' pa bo tok (some (bi, ups es q ⟨la, a', cap', xs⟩)) ∧ Chg [bi] w w' := by
  have l1 : ∀ w', Chg [] w w' → (Instr.lookup 48 (.map (some bo)) (.int .i64 tok) false).run Try.prog w' = .ok (.map (some bi)) w' := fun w' hc => (h.same hc).look ⟨by omega, ht⟩
  have l2 : ∀ w', Chg [] w w' → (Instr.lookup 53 (.map (some bi)) (.int .i64 q) true).run Try.prog w' = .ok (.tuple #[czero, .bool false]) w' := fun w' hc' => by
    have := (h.same hc').look2 (q := q) ⟨by omega, by omega⟩ true
    rw [hnew] at this
    exact this
  have c0 : w.cell? ⟨pa, 0, none⟩ = some (.map (some bo)) := cell_of_heap h.blk rfl
  have hpa := lt_of_cell c0
  unfold czero at l2
  have m1 := fun o1 => l1 _ ((Chg.refl [] w).alloc o1).drew
  have m2 := fun o1 o2 => l1 _ (((Chg.refl [] w).alloc o1).alloc o2).drew
  have m3 := fun o1 => l2 _ ((Chg.refl [] w).alloc o1).drew
  have m4 := fun o1 o2 => l2 _ (((Chg.refl [] w).alloc o1).alloc o2).drew
  have HI := Lib.hid hI
  have H := Lib.hid h
  have Hnew := Lib.hid hnew
  have Hes := Lib.hid hes
  have Hok := Lib.hid hok
  clear l1 l2 hI h hnew hes hok
  have hpa' : pa < w.heap.size + 1 := Nat.lt_succ_of_lt hpa
  go_enter Try.func11, Try.ntmps11
  go_wp2
  go_region
  go_wp2_with fail
  clear m1 m2 m3 m4
  refine (bounds_any pa bo tok _ _ (H.out.same (by exact (((Chg.refl [] w).alloc _).alloc _).drew)) ⟨by omega, ht⟩ Hes.out).mono ?_
  rintro e w1 ⟨f, l, rfl, hbd, hc1⟩
  obtain ⟨hok1, hok2⟩ := Hok.out f l hbd
  have C1 := Lib.hid (((((Chg.refl [] w).alloc (.cells #[.int .i64 tok, .int .i64 q, .bool la, .slice a xs.length cap] 39)).alloc (.cells #[.int .i64 0, .int .i64 0, .bool false, .slice none 0 0] 39)).drew).new hc1)
  have hb1 := hc1.block w.heap.size (by simp; omega) (by simp)
  have hbx : w1.heap[w.heap.size]? = some (.cells #[.int .i64 tok, .int .i64 q, .bool la, .slice a xs.length cap] 39) := by
    rw [hb1, heap_drew, heap_past _ _ _ (by simp), heap_at _ _ _ rfl]
  have p0 : w1.cell? ⟨w.heap.size, 0, none⟩ = some (.int .i64 tok) := cell_of_heap hbx rfl
  have p1 : w1.cell? ⟨w.heap.size, 1, none⟩ = some (.int .i64 q) := cell_of_heap hbx rfl
  have p2 : w1.cell? ⟨w.heap.size, 2, none⟩ = some (.bool la) := cell_of_heap hbx rfl
  have p3 : w1.cell? ⟨w.heap.size, 3, none⟩ = some (.slice a xs.length cap) := cell_of_heap hbx rfl
  have f3 : w1.frozen? ⟨w.heap.size, 3, none⟩ = false := frozen_of_heap hbx
  have c1 : w1.cell? ⟨pa, 0, none⟩ = some (.map (some bo)) := (C1.out.cell (p := ⟨pa, 0, none⟩) hpa (by simp)).trans c0
  have H1 := Lib.hid (H.out.same C1.out)
  have n1 := H1.out.look (tok := tok) ⟨by omega, ht⟩
  simp only [stv] at n1
  have n1' : (Instr.lookup 48 (.map (some bo)) (.int .i64 tok) false).run Try.prog w1.drew = .ok (.map (some bi)) w1.drew := (H1.out.same ((Chg.refl [] w1).drew)).look ⟨by omega, ht⟩
  have hnil := fun w : World => run_eql_map_nil (P := Try.prog) w 53 _ _ (some bi) Try.underlying53
  have Hbx := Lib.hid hbx
  clear hc1 hb1 hbx hbd
  have hl : la = true → l ≤ q := fun h => hok2.resolve_left (by simp [h])
  clear hok2
  rcases hok1 with hf | hf
  · cases la
    · skip
      try (have hl' := hl rfl)
      clear hl
      go_wp2
      go_region
      go_wp2_with fail
      refine (slicesClone _ _ xs ((HI.out.same C1.out).same ((Chg.refl [] w1).drew)) (by omega)).mono ?_
      rintro e w2 ⟨a2, cp2, rfl, hi2, hc2⟩
      have hW := C1.out.trans (((Chg.refl [] w1).drew).new hc2)
      have hb2 := hc2.block w.heap.size (lt_of_cell p0) (by simp)
      have hbx2 : w2.heap[w.heap.size]? = w1.heap[w.heap.size]? := hb2
      have r0 : w2.cell? ⟨w.heap.size, 0, none⟩ = some (.int .i64 tok) := (World.cell?_of_block (w := w1) (a := ⟨w.heap.size, 0, none⟩) hbx2).trans p0
      have r1 : w2.cell? ⟨w.heap.size, 1, none⟩ = some (.int .i64 q) := (World.cell?_of_block (w := w1) (a := ⟨w.heap.size, 1, none⟩) hbx2).trans p1
      have r2 := (World.cell?_of_block (w := w1) (a := ⟨w.heap.size, 2, none⟩) hbx2).trans p2
      have r3 : w2.cell? ⟨w.heap.size, 3, none⟩ = some (.slice a xs.length cap) := (World.cell?_of_block (w := w1) (a := ⟨w.heap.size, 3, none⟩) hbx2).trans p3
      have rf : w2.frozen? ⟨w.heap.size, 3, none⟩ = false := (World.frozen?_of_block (w := w1) (a := ⟨w.heap.size, 3, none⟩) hbx2).trans f3
      have rc : w2.cell? ⟨pa, 0, none⟩ = some (.map (some bo)) := (hW.cell (p := ⟨pa, 0, none⟩) hpa (by simp)).trans c0
      have hm2 : ∃ cs, w2.heap[w.heap.size]? = some (.cells cs 39) := ⟨_, hbx2.trans Hbx.out⟩
      have hne : w.heap.size ≠ pa := by omega
      have h3 := (H.out.same hW).kept (w' := (w2.setCell ⟨w.heap.size, 3, none⟩ (.slice a2 xs.length cp2)).drew) (S := [w.heap.size]) (((Chg.refl _ w2).setCell (Or.inl (by simp)) _).drew) (by simp; omega)
        (by have := H.out.2.1.lt; simp; omega) (fun s hs => by cases hs; have := H.out.2.2.1.lt; simp; omega) (fun k hk => by obtain rfl := List.mem_singleton.1 hk; obtain ⟨cs, hcs⟩ := hm2; exact NotE.of_heap hcs (by simp))
      have t1 := h3.look (tok := tok) ⟨by omega, ht⟩
      simp only [stv] at t1
      obtain ⟨o, hrun, hmap⟩ := h3.2.2.1.update ikeyed ik_inj Try.underlying53 (x := q) (ikOk ⟨by omega, by omega⟩) (CQ.val tok q ⟨false, a2, cp2, xs⟩)
      have hend := add_end rfl H.out hW hm2 hi2 _ hmap
      unfold CQ.val ik at hrun
      simp only at hrun
      have Hend := Lib.hid hend
      clear hend hmap hm2 hbx2 hb2 hW hc2 hi2 n1 n1'
      go_wp2
      go_region
      go_wp2
      go_ret2
      exact ⟨_, _, rfl, Hend.out⟩
    · skip
      try (have hl' := hl rfl)
      clear hl
      go_wp2
      go_region
      go_wp2_with fail
      refine (slicesClone _ _ xs ((HI.out.same C1.out).same ((Chg.refl [] w1).drew)) (by omega)).mono ?_
      rintro e w2 ⟨a2, cp2, rfl, hi2, hc2⟩
      have hW := C1.out.trans (((Chg.refl [] w1).drew).new hc2)
      have hb2 := hc2.block w.heap.size (lt_of_cell p0) (by simp)
      have hbx2 : w2.heap[w.heap.size]? = w1.heap[w.heap.size]? := hb2
      have r0 : w2.cell? ⟨w.heap.size, 0, none⟩ = some (.int .i64 tok) := (World.cell?_of_block (w := w1) (a := ⟨w.heap.size, 0, none⟩) hbx2).trans p0
      have r1 : w2.cell? ⟨w.heap.size, 1, none⟩ = some (.int .i64 q) := (World.cell?_of_block (w := w1) (a := ⟨w.heap.size, 1, none⟩) hbx2).trans p1
      have r2 := (World.cell?_of_block (w := w1) (a := ⟨w.heap.size, 2, none⟩) hbx2).trans p2
      have r3 : w2.cell? ⟨w.heap.size, 3, none⟩ = some (.slice a xs.length cap) := (World.cell?_of_block (w := w1) (a := ⟨w.heap.size, 3, none⟩) hbx2).trans p3
      have rf : w2.frozen? ⟨w.heap.size, 3, none⟩ = false := (World.frozen?_of_block (w := w1) (a := ⟨w.heap.size, 3, none⟩) hbx2).trans f3
      have rc : w2.cell? ⟨pa, 0, none⟩ = some (.map (some bo)) := (hW.cell (p := ⟨pa, 0, none⟩) hpa (by simp)).trans c0
      have hm2 : ∃ cs, w2.heap[w.heap.size]? = some (.cells cs 39) := ⟨_, hbx2.trans Hbx.out⟩
      have hne : w.heap.size ≠ pa := by omega
      have h3 := (H.out.same hW).kept (w' := (w2.setCell ⟨w.heap.size, 3, none⟩ (.slice a2 xs.length cp2)).drew) (S := [w.heap.size]) (((Chg.refl _ w2).setCell (Or.inl (by simp)) _).drew) (by simp; omega)
        (by have := H.out.2.1.lt; simp; omega) (fun s hs => by cases hs; have := H.out.2.2.1.lt; simp; omega) (fun k hk => by obtain rfl := List.mem_singleton.1 hk; obtain ⟨cs, hcs⟩ := hm2; exact NotE.of_heap hcs (by simp))
      have t1 := h3.look (tok := tok) ⟨by omega, ht⟩
      simp only [stv] at t1
      obtain ⟨o, hrun, hmap⟩ := h3.2.2.1.update ikeyed ik_inj Try.underlying53 (x := q) (ikOk ⟨by omega, by omega⟩) (CQ.val tok q ⟨true, a2, cp2, xs⟩)
      have hend := add_end rfl H.out hW hm2 hi2 _ hmap
      unfold CQ.val ik at hrun
      simp only at hrun
      have Hend := Lib.hid hend
      clear hend hmap hm2 hbx2 hb2 hW hc2 hi2 n1 n1'
      go_wp2
      go_region
      go_wp2
      go_ret2
      exact ⟨_, _, rfl, Hend.out⟩
  · cases la
    · skip
      try (have hl' := hl rfl)
      clear hl
      go_wp2
      go_region
      go_wp2_with fail
      refine (slicesClone _ _ xs ((HI.out.same C1.out).same ((Chg.refl [] w1).drew)) (by omega)).mono ?_
      rintro e w2 ⟨a2, cp2, rfl, hi2, hc2⟩
      have hW := C1.out.trans (((Chg.refl [] w1).drew).new hc2)
      have hb2 := hc2.block w.heap.size (lt_of_cell p0) (by simp)
      have hbx2 : w2.heap[w.heap.size]? = w1.heap[w.heap.size]? := hb2
      have r0 : w2.cell? ⟨w.heap.size, 0, none⟩ = some (.int .i64 tok) := (World.cell?_of_block (w := w1) (a := ⟨w.heap.size, 0, none⟩) hbx2).trans p0
      have r1 : w2.cell? ⟨w.heap.size, 1, none⟩ = some (.int .i64 q) := (World.cell?_of_block (w := w1) (a := ⟨w.heap.size, 1, none⟩) hbx2).trans p1
      have r2 := (World.cell?_of_block (w := w1) (a := ⟨w.heap.size, 2, none⟩) hbx2).trans p2
      have r3 : w2.cell? ⟨w.heap.size, 3, none⟩ = some (.slice a xs.length cap) := (World.cell?_of_block (w := w1) (a := ⟨w.heap.size, 3, none⟩) hbx2).trans p3
      have rf : w2.frozen? ⟨w.heap.size, 3, none⟩ = false := (World.frozen?_of_block (w := w1) (a := ⟨w.heap.size, 3, none⟩) hbx2).trans f3
      have rc : w2.cell? ⟨pa, 0, none⟩ = some (.map (some bo)) := (hW.cell (p := ⟨pa, 0, none⟩) hpa (by simp)).trans c0
      have hm2 : ∃ cs, w2.heap[w.heap.size]? = some (.cells cs 39) := ⟨_, hbx2.trans Hbx.out⟩
      have hne : w.heap.size ≠ pa := by omega
      have h3 := (H.out.same hW).kept (w' := (w2.setCell ⟨w.heap.size, 3, none⟩ (.slice a2 xs.length cp2)).drew) (S := [w.heap.size]) (((Chg.refl _ w2).setCell (Or.inl (by simp)) _).drew) (by simp; omega)
        (by have := H.out.2.1.lt; simp; omega) (fun s hs => by cases hs; have := H.out.2.2.1.lt; simp; omega) (fun k hk => by obtain rfl := List.mem_singleton.1 hk; obtain ⟨cs, hcs⟩ := hm2; exact NotE.of_heap hcs (by simp))
      have t1 := h3.look (tok := tok) ⟨by omega, ht⟩
      simp only [stv] at t1
      obtain ⟨o, hrun, hmap⟩ := h3.2.2.1.update ikeyed ik_inj Try.underlying53 (x := q) (ikOk ⟨by omega, by omega⟩) (CQ.val tok q ⟨false, a2, cp2, xs⟩)
      have hend := add_end rfl H.out hW hm2 hi2 _ hmap
      unfold CQ.val ik at hrun
      simp only at hrun
      have Hend := Lib.hid hend
      clear hend hmap hm2 hbx2 hb2 hW hc2 hi2 n1 n1'
      go_wp2
      go_region
      go_wp2
      go_ret2
      exact ⟨_, _, rfl, Hend.out⟩
    · skip
      try (have hl' := hl rfl)
      clear hl
      go_wp2
      go_region
      go_wp2_with fail
      refine (slicesClone _ _ xs ((HI.out.same C1.out).same ((Chg.refl [] w1).drew)) (by omega)).mono ?_
      rintro e w2 ⟨a2, cp2, rfl, hi2, hc2⟩
      have hW := C1.out.trans (((Chg.refl [] w1).drew).new hc2)
      have hb2 := hc2.block w.heap.size (lt_of_cell p0) (by simp)
      have hbx2 : w2.heap[w.heap.size]? = w1.heap[w.heap.size]? := hb2
      have r0 : w2.cell? ⟨w.heap.size, 0, none⟩ = some (.int .i64 tok) := (World.cell?_of_block (w := w1) (a := ⟨w.heap.size, 0, none⟩) hbx2).trans p0
      have r1 : w2.cell? ⟨w.heap.size, 1, none⟩ = some (.int .i64 q) := (World.cell?_of_block (w := w1) (a := ⟨w.heap.size, 1, none⟩) hbx2).trans p1
      have r2 := (World.cell?_of_block (w := w1) (a := ⟨w.heap.size, 2, none⟩) hbx2).trans p2
      have r3 : w2.cell? ⟨w.heap.size, 3, none⟩ = some (.slice a xs.length cap) := (World.cell?_of_block (w := w1) (a := ⟨w.heap.size, 3, none⟩) hbx2).trans p3
      have rf : w2.frozen? ⟨w.heap.size, 3, none⟩ = false := (World.frozen?_of_block (w := w1) (a := ⟨w.heap.size, 3, none⟩) hbx2).trans f3
      have rc : w2.cell? ⟨pa, 0, none⟩ = some (.map (some bo)) := (hW.cell (p := ⟨pa, 0, none⟩) hpa (by simp)).trans c0
      have hm2 : ∃ cs, w2.heap[w.heap.size]? = some (.cells cs 39) := ⟨_, hbx2.trans Hbx.out⟩
      have hne : w.heap.size ≠ pa := by omega
      have h3 := (H.out.same hW).kept (w' := (w2.setCell ⟨w.heap.size, 3, none⟩ (.slice a2 xs.length cp2)).drew) (S := [w.heap.size]) (((Chg.refl _ w2).setCell (Or.inl (by simp)) _).drew) (by simp; omega)
        (by have := H.out.2.1.lt; simp; omega) (fun s hs => by cases hs; have := H.out.2.2.1.lt; simp; omega) (fun k hk => by obtain rfl := List.mem_singleton.1 hk; obtain ⟨cs, hcs⟩ := hm2; exact NotE.of_heap hcs (by simp))
      have t1 := h3.look (tok := tok) ⟨by omega, ht⟩
      simp only [stv] at t1
      obtain ⟨o, hrun, hmap⟩ := h3.2.2.1.update ikeyed ik_inj Try.underlying53 (x := q) (ikOk ⟨by omega, by omega⟩) (CQ.val tok q ⟨true, a2, cp2, xs⟩)
      have hend := add_end rfl H.out hW hm2 hi2 _ hmap
      unfold CQ.val ik at hrun
      simp only at hrun
      have Hend := Lib.hid hend
      clear hend hmap hm2 hbx2 hb2 hW hc2 hi2 n1 n1'
      go_wp2
      go_region
      go_wp2
      go_ret2
      exact ⟨_, _, rfl, Hend.out⟩
end Go.Proofs.Ytlhngcpodkiafaa
