/- A client: Request, Cancel, Pending of none. -/
import Derived.Test.YtiklgipcgdgkoaaDoorJsT
namespace Go.Proofs.YtiklgipcgdgkoaaDoor.Jv
open Go.RowKit Go.ChangeMaps Go.MapKept
set_option linter.unusedVariables false
set_option linter.unusedSimpArgs false
/-- a message stored into a block of nine cells -/
def st9 (w : World) (g : Nat) (k i c : Int) (t : ByteArray) : World :=
  ((((((((w.setCell ⟨g, 0, none⟩ (.int .i64 k)).setCell ⟨g, 1, none⟩ (.int .i64 i)).setCell ⟨g, 2, none⟩ (.int .i64 c)).setCell ⟨g, 3, none⟩ (.string t)).setCell ⟨g, 4, none⟩ (.int .i64 0)).setCell ⟨g, 5, none⟩ (.int .i64 0)).setCell ⟨g, 6, none⟩ (.string ⟨#[]⟩)).setCell ⟨g, 7, none⟩ (.slice none 0 0)).setCell ⟨g, 8, none⟩ (.slice none 0 0)
theorem st9_chg (w : World) (g : Nat) (k i c : Int) (t : ByteArray) : Chg [g] w (st9 w g k i c t) :=
  (((((((((Chg.refl [g] w).setCell (Or.inl (by simp)) _).setCell (Or.inl (by simp)) _).setCell (Or.inl (by simp)) _).setCell (Or.inl (by simp)) _).setCell (Or.inl (by simp)) _).setCell (Or.inl (by simp)) _).setCell (Or.inl (by simp)) _).setCell (Or.inl (by simp)) _).setCell (Or.inl (by simp)) _
theorem st9_heap {w : World} {g : Nat} {v0 v1 v2 v3 v4 v5 v6 v7 v8 : Value} {T : TypeId} (h : w.heap[g]? = some (.cells #[v0, v1, v2, v3, v4, v5, v6, v7, v8] T (0, 0))) (k i c : Int) (t : ByteArray) :
    (st9 w g k i c t).heap[g]? = some (.cells #[.int .i64 k, .int .i64 i, .int .i64 c, .string t, .int .i64 0, .int .i64 0, .string ⟨#[]⟩, .slice none 0 0, .slice none 0 0] T (0, 0)) := by
  have h0 := heap_setCell_same (i := 0) h (.int .i64 k)
  have h1 := heap_setCell_same (i := 1) h0 (.int .i64 i)
  have h2 := heap_setCell_same (i := 2) h1 (.int .i64 c)
  have h3 := heap_setCell_same (i := 3) h2 (.string t)
  have h4 := heap_setCell_same (i := 4) h3 (.int .i64 0)
  have h5 := heap_setCell_same (i := 5) h4 (.int .i64 0)
  have h6 := heap_setCell_same (i := 6) h5 (.string ⟨#[]⟩)
  have h7 := heap_setCell_same (i := 7) h6 (.slice none 0 0)
  have h8 := heap_setCell_same (i := 8) h7 (.slice none 0 0)
  unfold st9
  rw [h8]
  simp
/-- a block of nine cells, what a walk asks of it -/
theorem nine {w : World} {g : Nat} {v0 v1 v2 v3 v4 v5 v6 v7 v8 : Value} {T : TypeId} (h : w.heap[g]? = some (.cells #[v0, v1, v2, v3, v4, v5, v6, v7, v8] T (0, 0))) :
    (w.cell? ⟨g, 0, none⟩ = some v0 ∧ w.cell? ⟨g, 1, none⟩ = some v1 ∧ w.cell? ⟨g, 2, none⟩ = some v2 ∧ w.cell? ⟨g, 3, none⟩ = some v3 ∧ w.cell? ⟨g, 4, none⟩ = some v4 ∧ w.cell? ⟨g, 5, none⟩ = some v5 ∧ w.cell? ⟨g, 6, none⟩ = some v6 ∧ w.cell? ⟨g, 7, none⟩ = some v7 ∧ w.cell? ⟨g, 8, none⟩ = some v8) ∧ (∀ i, w.frozen? ⟨g, i, none⟩ = false) ∧ g < w.heap.size :=
  ⟨⟨cell_of_heap h rfl, cell_of_heap h rfl, cell_of_heap h rfl, cell_of_heap h rfl, cell_of_heap h rfl, cell_of_heap h rfl, cell_of_heap h rfl, cell_of_heap h rfl, cell_of_heap h rfl⟩, fun i => frozen_of_heap (i := i) h, lt_of_obj h⟩
theorem Cli.next {w : World} {cb mb N : Nat} {es : List (Int × Value)} (h : Cli w cb mb N es) : Cli (w.setCell ⟨cb, 0, none⟩ (.int .i64 ((N : Int) + 1))) cb mb (N + 1) es ∧ ChgP (CF cb mb) w (w.setCell ⟨cb, 0, none⟩ (.int .i64 ((N : Int) + 1))) := by
  have hc : Chg [cb] w (w.setCell ⟨cb, 0, none⟩ (.int .i64 ((N : Int) + 1))) := (Chg.refl _ _).setCell (Or.inl (by simp)) _
  refine ⟨⟨?_, h.map.of_block (hc.block mb h.map.lt (by simpa using Ne.symm h.ne)), h.ne, h.vals⟩, hc.toP.mono fun g hg => Or.inl (List.mem_singleton.1 hg)⟩
  rw [heap_setCell_same (i := 0) h.box]
  simp
theorem rq_a {w1 w9 : World} (t : ByteArray) (N : Nat) (hd : Chg [] w1 w9) : ∃ b, Value.pointer (some ⟨w9.heap.size, 0, none⟩) = Value.pointer (some ⟨b, 0, none⟩) ∧ Hid ((w9.alloc (.cells #[.int .i64 1, .int .i64 (N : Nat), .int .i64 0, .string t, .int .i64 0, .int .i64 0, .string ⟨#[]⟩, .slice none 0 0, .slice none 0 0] 27)).heap[b]? = some (.cells #[.int .i64 1, .int .i64 (N : Nat), .int .i64 0, .string t, .int .i64 0, .int .i64 0, .string ⟨#[]⟩, .slice none 0 0, .slice none 0 0] 27 (0, 0)) ∧ Chg [] w1 (w9.alloc (.cells #[.int .i64 1, .int .i64 (N : Nat), .int .i64 0, .string t, .int .i64 0, .int .i64 0, .string ⟨#[]⟩, .slice none 0 0, .slice none 0 0] 27))) :=
  ⟨_, rfl, Lib.hid ⟨heap_at _ _ _ rfl, hd.alloc _⟩⟩
theorem rq_b {w1 w9 : World} (t : ByteArray) (N : Nat) (hc : Chg [] (w1.drew.alloc (.cells #[.int .i64 0, .int .i64 0, .int .i64 0, .string ⟨#[]⟩, .int .i64 0, .int .i64 0, .string ⟨#[]⟩, .slice none 0 0, .slice none 0 0] 27)) w9) (hd : Chg [] w1 w9) : ∃ b, Value.pointer (some ⟨w1.heap.size, 0, none⟩) = Value.pointer (some ⟨b, 0, none⟩) ∧ Hid ((st9 w9 w1.heap.size 1 (N : Nat) 0 t).heap[b]? = some (.cells #[.int .i64 1, .int .i64 (N : Nat), .int .i64 0, .string t, .int .i64 0, .int .i64 0, .string ⟨#[]⟩, .slice none 0 0, .slice none 0 0] 27 (0, 0)) ∧ Chg [] w1 (st9 w9 w1.heap.size 1 (N : Nat) 0 t)) := by
  have h0 : w9.heap[w1.heap.size]? = some (.cells #[.int .i64 0, .int .i64 0, .int .i64 0, .string ⟨#[]⟩, .int .i64 0, .int .i64 0, .string ⟨#[]⟩, .slice none 0 0, .slice none 0 0] 27 (0, 0)) := (hc.block w1.heap.size (by simp) (by simp)).trans (heap_at _ _ _ (by simp))
  have h1 := st9_heap h0 1 (N : Nat) 0 t
  have h2 : Chg [] w1 (st9 w9 w1.heap.size 1 (N : Nat) 0 t) := hd.comp (st9_chg w9 w1.heap.size 1 (N : Nat) 0 t) (fun x hx => Or.inr (by have := List.mem_singleton.1 hx; omega))
  generalize st9 w9 w1.heap.size 1 (N : Nat) 0 t = W at h1 h2 ⊢
  exact ⟨w1.heap.size, rfl, Lib.hid ⟨h1, h2⟩⟩
def zM : Value := mV 0 0 0 ⟨#[]⟩
/-- what Request does -/
def RqPost (cb mb N : Nat) (es : List (Int × Value)) (t : ByteArray) (w : World) (e : Ending) (w' : World) : Prop :=
  (∃ z : Int, z ≠ 0 ∧ e = .returned (.tuple #[zM, .int .i64 z]) ∧ Chg [] w w') ∨ (e = .returned (.tuple #[mV 1 (N : Nat) 0 t, .int .i64 0]) ∧ Cli w' cb mb (N + 1) (ups es (N : Nat) (.int .i64 0)) ∧ ChgP (CF cb mb) w w')
set_option maxRecDepth 100000 in
set_option maxHeartbeats 2000000 in
theorem request_any (w : World) (cb mb N : Nat) (es : List (Int × Value)) (t : ByteArray) (h : Cli w cb mb N es) (hN : N ≤ 2147483646) (ht : 1 ≤ t.size ∧ t.size ≤ 60) (hu : u8 t = true) (hT : Tb w) :
    Calls Tryd.prog 25 #[.pointer (some ⟨cb, 0, none⟩), .string t, .agg #[.int .i64 0, .int .i64 0, .string ⟨#[]⟩, .slice none 0 0, .slice none 0 0]] w (RqPost cb mb N es t w) := by
  obtain ⟨w1, hw1⟩ : ∃ x, x = (w.alloc (.cells #[.int .i64 0, .int .i64 0, .string ⟨#[]⟩, .slice none 0 0, .slice none 0 0] 25)).alloc (.cells #[.int .i64 0, .int .i64 0, .int .i64 0, .string ⟨#[]⟩, .int .i64 0, .int .i64 0, .string ⟨#[]⟩, .slice none 0 0, .slice none 0 0] 27) := ⟨_, rfl⟩
  obtain ⟨bb, hbb⟩ : ∃ x, x = w.heap.size := ⟨_, rfl⟩
  have hc1 : Chg [] w w1 := by rw [hw1]; exact ((Chg.refl _ _).alloc _).alloc _
  have hb1 : w1.heap[bb]? = some (.cells #[.int .i64 0, .int .i64 0, .string ⟨#[]⟩, .slice none 0 0, .slice none 0 0] 25 (0, 0)) := by
    rw [hw1, hbb, heap_past _ _ _ (by simp)]; exact heap_at _ _ _ rfl
  have hr1 : w1.heap[bb + 1]? = some (.cells #[.int .i64 0, .int .i64 0, .int .i64 0, .string ⟨#[]⟩, .int .i64 0, .int .i64 0, .string ⟨#[]⟩, .slice none 0 0, .slice none 0 0] 27 (0, 0)) := by
    rw [hw1, hbb]; exact heap_at _ _ _ (by simp)
  have H := Lib.hid (fun W (hc : Chg [] w W) => h.new hc)
  have Hc1 := Lib.hid hc1
  have Hr1 := Lib.hid hr1
  have HE := Lib.hid (fun W (hc : Chg [] w W) => enc_msg 1 (N : Nat) 0 t W ⟨by omega, Or.inl ⟨rfl, rfl, ht.1, ht.2, hu⟩⟩ (hT.new hc))
  have Hw : Hid (w.heap.size ≤ bb + 1) := Lib.hid (by omega)
  have hN2 : (N : Int) ≤ 2147483646 := by omega
  have c0 := (h.new hc1).c0
  have lc := lt_of_cell c0
  obtain ⟨b0, b1, b2, b3, b4⟩ := box_kept bb hb1 (Chg.refl [] w1)
  have lb := lt_of_cell b0
  have Hne : Hid (cb ≠ bb + 1) := Lib.hid (by have := lt_of_obj h.box; omega)
  clear h hc1 hb1 hr1 ht hu hT hN
  unfold mV at HE
  go_enter Tryd.func25, Tryd.ntmps25
  go_upto_region 1 with fail
  rw [← hw1, ← hbb]
  clear hw1 hbb
  go_cut [8] (fun x8 wx => ∃ b, x8 = .pointer (some ⟨b, 0, none⟩) ∧ Hid (wx.heap[b]? = some (.cells #[.int .i64 1, .int .i64 (N : Nat), .int .i64 0, .string t, .int .i64 0, .int .i64 0, .string ⟨#[]⟩, .slice none 0 0, .slice none 0 0] 27 (0, 0)) ∧ Chg [] w1 wx))
  case first =>
    go_region_with (go_at_call 39; refine (clone_zero _).mono ?_; rintro e w9 ⟨rfl, hc9⟩; have hd9 : Chg [] w1 w9 := (by first | exact ((Chg.refl [] w1).drew).trans hc9 | exact (((Chg.refl [] w1).drew).alloc _).trans hc9); have c09 := (hd9.cell (p := ⟨cb, 0, none⟩) lc (by simp)).trans c0; have lc9 := lt_of_cell c09; (try (obtain ⟨⟨n0, n1, n2, n3, n4, n5, n6, n7, n8⟩, nf, nl⟩ := nine ((hc9.block w1.heap.size (by simp) (by simp)).trans (heap_at _ _ _ (by simp))))))
    all_goals
      go_wp2_with fail
      go_meet
      first
        | (have := n0; exact rq_b (w1 := w1) (w9 := w9) t N hc9 hd9)
        | exact rq_a (w1 := w1) (w9 := w9) t N hd9
  case rest =>
    obtain ⟨b, rfl, Hb⟩ := hcut
    clear c0 lc b0 b1 b2 b3 b4 lb
    obtain ⟨⟨n0, n1, n2, n3, n4, n5, n6, n7, n8⟩, nf, nl⟩ := nine Hb.out.1
    have Hcx := Lib.hid (Hc1.out.trans Hb.out.2)
    go_wp2_with fail
    refine (HE.out wc Hcx.out).mono ?_
    rintro e w2 ⟨v, rfl, hv, hc2⟩
    obtain ⟨ev, rfl⟩ := hv.ev'
    unfold Ev.val
    clear hv n0 n1 n2 n3 n4 n5 n6 n7 n8 nf nl
    obtain ⟨w3, hw3⟩ : ∃ x, x = w2.alloc (.cells #[.int .i64 ev.k, .int .i64 ev.n, .string ev.t, .slice ev.na ev.nl ev.nc, .slice ev.ia ev.il ev.ic] 25) := ⟨_, rfl⟩
    have hc3 : Chg [] wc w3 := by rw [hw3]; exact hc2.alloc _
    have Hc3 := Lib.hid (Hcx.out.trans hc3)
    have hbm := (hc3.block b (lt_of_obj Hb.out.1) (by simp)).trans Hb.out.1
    have hrb := ((Hb.out.2.trans hc3).block (bb + 1) (lt_of_obj Hr1.out) (by simp)).trans Hr1.out
    have Hbm := Lib.hid hbm
    have Hrb := Lib.hid hrb
    clear hc2 hc3 hbm hrb
    go_upto_region 5 with fail
    rw [← hw3]
    clear hw3
    have h3 := H.out w3 Hc3.out
    obtain ⟨arr, clock, hma, hme, _⟩ := h3.map
    have hsz : arr.size = es.length := by
      have := congrArg List.length hme
      simpa using this
    have hlen := fun ty => run_len_map (P := Tryd.prog) (w := w3) 81 ty mb arr clock (by kernel_rfl) hma
    have c1 := h3.c1
    have lc := lt_of_cell c1
    by_cases h40 : 40 ≤ es.length
    · have hd : decide ((arr.size : Int) ≥ 40) = true := decide_eq_true (by omega)
      clear h40 hsz hme h3
      obtain ⟨⟨r0, r1, r2, r3, r4, r5, r6, r7, r8⟩, rf, rl⟩ := nine Hrb.out
      go_wp2_with fail
      refine bodyPost_ret (v := .tuple #[zM, .int .i64 2]) (by simp [results, Tryd.results25, go_sem, r0, r1, r2, r3, r4, r5, r6, r7, r8, zM, mV]) rfl ?_
      exact Or.inl ⟨2, by decide, rfl, Hc3.out.comp (st9_chg w3 (bb + 1) 0 0 0 ⟨#[]⟩) fun x hx => Or.inr (by have := List.mem_singleton.1 hx; have := Hw.out; omega)⟩
    · have hd : decide ((arr.size : Int) ≥ 40) = false := decide_eq_false (by omega)
      have H3 := Lib.hid h3
      clear h40 hsz hme h3
      obtain ⟨o, hr, hC, hF⟩ := (H3.out.new ((Chg.refl [] w3).drew)).store (i := (N : Nat)) ⟨by omega, by omega⟩ 0
      obtain ⟨w5, hw5⟩ : ∃ y, y = setBlock w3.drew mb o := ⟨_, rfl⟩
      rw [← hw5] at hr hC hF
      obtain ⟨w6, hw6⟩ : ∃ y, y = w5.setCell ⟨cb, 0, none⟩ (.int .i64 ((N : Int) + 1)) := ⟨_, rfl⟩
      have hnx := hC.next
      rw [← hw6] at hnx
      have Hdiff : Hid (∀ (g : Nat) (cs : Array Value), w3.heap[g]? = some (Obj.cells cs 27 (0, 0)) → w6.heap[g]? = some (Obj.cells cs 27 (0, 0))) := Lib.hid fun g cs hg => by
        have n1 : ¬ CF cb mb g := fun h => by
          rcases h with rfl | rfl
          · rw [H3.out.box] at hg
            simp only [Option.some.injEq, Obj.cells.injEq] at hg
            exact absurd hg.2.1 (by decide)
          · obtain ⟨_, _, hm, _⟩ := H3.out.map
            rw [hm] at hg
            cases hg
        have hl := lt_of_obj hg
        exact (hnx.2.block g (Nat.lt_of_lt_of_le hl hF.size) n1).trans ((hF.block g hl n1).trans hg)
      have HN := Lib.hid (And.intro hnx (And.intro hF (show w3.heap.size ≤ w3.heap.size from Nat.le_refl _)))
      have Hmn : Hid (mb ≠ bb + 1) := Lib.hid fun e => by
        obtain ⟨_, _, hm, _⟩ := H3.out.map
        have := Hrb.out
        rw [← e, hm] at this
        cases this
      have c0 := H3.out.c0
      have c05 := hC.c0
      have lc5 := lt_of_cell c05
      have fc5 : w5.frozen? ⟨cb, 0, none⟩ = false := frozen_of_heap (i := 0) hC.box
      clear hnx hF hC hma
      go_upto_region 7 with fail
      go_region
      try rw [← hw5]
      clear hr hw5
      go_upto_region 9 with fail
      rw [← hw6]
      clear hw6 c0 c05 lc5 fc5
      obtain ⟨⟨n0, n1, n2, n3, n4, n5, n6, n7, n8⟩, nf, nl⟩ := nine (Hdiff.out _ _ Hbm.out)
      obtain ⟨⟨r0, r1, r2, r3, r4, r5, r6, r7, r8⟩, rf, rl⟩ := nine (Hdiff.out _ _ Hrb.out)
      go_wp2_with fail
      refine bodyPost_ret (v := .tuple #[mV 1 (N : Nat) 0 t, .int .i64 0]) (by simp [results, Tryd.results25, go_sem, r0, r1, r2, r3, r4, r5, r6, r7, r8, mV]) rfl ?_
      have hst := st9_chg w6 (bb + 1) 1 (N : Nat) 0 t
      refine Or.inr ⟨rfl, HN.out.1.1.kept hst.toP (by have := Hne.out; simpa using this) (by have := Hmn.out; simpa using this), ((((Hc3.out.p (S := CF cb mb)).trans ((Chg.refl [] w3).drew).p).trans HN.out.2.1).trans HN.out.1.2).comp hst.toP fun x hx => Or.inr ?_⟩
      have := List.mem_singleton.1 hx
      have := Hw.out
      omega
end Go.Proofs.YtiklgipcgdgkoaaDoor.Jv
