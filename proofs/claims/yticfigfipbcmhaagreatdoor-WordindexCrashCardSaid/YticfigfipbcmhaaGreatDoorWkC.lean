/- WordindexCrash: decode. -/
import Derived.Test.YticfigfipbcmhaaGreatDoorWkAB
namespace Go.Proofs.YticfigfipbcmhaaGreatDoor
open Go.RowKit Go.ChangeMaps Go.MapKept Go.Shelf
set_option linter.unusedVariables false
set_option linter.unusedSimpArgs false
/-- the cell that strings.Split reads (internal/bytealg.MaxLen) -/
def ML (w : World) : Prop := ∃ m : Int, w.cell? ⟨0, 0, none⟩ = some (.int .i64 m)
theorem ML.new {w w' : World} (h : ML w) (hc : Chg [] w w') : ML w' := by
  obtain ⟨m, hm⟩ := h
  exact ⟨m, (hc.cell (lt_of_cell hm) (by simp)).trans hm⟩
theorem pre_self (a b : List UInt8) : Lib.hasPrefix (a ++ b) a = true := by
  unfold Lib.hasPrefix
  rw [List.isPrefixOf_iff_prefix]
  exact List.prefix_append a b
theorem cut_hit (s : Nat) (l : List ByteArray) (W : World) : Calls Tryz.prog 45 #[.string (lb (encL s l)), .string (lb (hx8 s))] W fun e w' => e = .returned (.tuple #[.string (lb (tailW l)), .bool true]) ∧ w' = W := by
  have h := Tryz.strings_CutPrefix (lb (encL s l)) (lb (hx8 s)) W
  have e1 : (lb (encL s l)).data.toList = hx8 s ++ tailW l := bl_lb _
  have e2 : (lb (hx8 s)).data.toList = hx8 s := bl_lb _
  rw [e1, e2, pre_self] at h
  unfold Lib.trimPrefix at h
  rw [pre_self, if_pos rfl, List.drop_left] at h
  exact h
theorem cut_miss (s s' : Nat) (l : List ByteArray) (W : World) (hs : s < 4294967296) (hs' : s' < 4294967296) (hne : s ≠ s') : Calls Tryz.prog 45 #[.string (lb (encL s' l)), .string (lb (hx8 s))] W fun e w' => e = .returned (.tuple #[.string (lb (encL s' l)), .bool false]) ∧ w' = W := by
  have h := Tryz.strings_CutPrefix (lb (encL s' l)) (lb (hx8 s)) W
  have e1 : (lb (encL s' l)).data.toList = hx8 s' ++ tailW l := bl_lb _
  have e2 : (lb (hx8 s)).data.toList = hx8 s := bl_lb _
  have e3 : Lib.hasPrefix (hx8 s' ++ tailW l) (hx8 s) = false := by
    rw [Bool.eq_false_iff]
    intro hp
    unfold Lib.hasPrefix at hp
    rw [List.isPrefixOf_iff_prefix] at hp
    obtain ⟨t, ht⟩ := hp
    have := congrArg (List.take 8) ht
    rw [List.take_left' (hx8_len s), List.take_left' (hx8_len s')] at this
    exact hne (hx8_inj hs hs' this)
  rw [e1, e2, e3] at h
  unfold Lib.trimPrefix at h
  rw [e3, if_neg (by decide)] at h
  exact h
theorem split_any' (l : List ByteArray) (hw : WsOk l) (h0 : l ≠ []) (W : World) (hM : ML W) : Calls Tryz.prog 46 #[.string ((lb (tailW l)).extract 1 (lb (tailW l)).size), .string ⟨#[32]⟩] W fun e w' => e = .returned (.slice (some ⟨W.heap.size, 0, none⟩) l.length l.length) ∧ w' = W.alloc (.cells (l.map Value.string).toArray 9) := by
  obtain ⟨m, hm⟩ := hM
  cases l with
  | nil => exact absurd rfl h0
  | cons x r =>
    obtain ⟨s, hs⟩ : ∃ s, s = (lb (tailW (x :: r))).extract 1 (lb (tailW (x :: r))).size := ⟨_, rfl⟩
    have hb : bl s = bl x ++ tailW r := by
      rw [hs, bl_extract, bl_lb]
      have e : tailW (x :: r) = 32 :: (bl x ++ tailW r) := by simp [tailW]
      rw [e, List.drop_one, List.tail_cons]
      refine List.take_of_length_le ?_
      rw [lb_size]
      simp
    have hz : s.size ≤ 3000 := by
      have h1 : (bl s).length = s.size := rfl
      have h2 := hw.sum
      rw [← h1, hb, List.length_append, tailW_len]
      have h3 : (bl x).length = x.size := rfl
      have h4 : wsum (x :: r) = x.size + 1 + wsum r := by simp [wsum]
      omega
    have h := Tryz.strings_Split s ⟨#[32]⟩ m W (by omega) hm (by decide)
    have e1 := split_back x r hw s hb
    have e2 := Lib.splitB_all ⟨#[32]⟩ (by decide) 0 _ s rfl
    rw [e1] at e2
    rw [e1, ← e2] at h
    rw [← hs]
    exact h
theorem tail_head (x : ByteArray) (r : List ByteArray) (h : 0 < (lb (tailW (x :: r))).size) : ((lb (tailW (x :: r)))[0]'h).toNat = 32 := by
  have e : tailW (x :: r) = 32 :: (bl x ++ tailW r) := by simp [tailW]
  have : (bl (lb (tailW (x :: r))))[0]? = some 32 := by rw [bl_lb, e]; rfl
  have h2 : (bl (lb (tailW (x :: r))))[0]? = some ((lb (tailW (x :: r)))[0]'h) := List.getElem?_eq_getElem (l := bl (lb (tailW (x :: r)))) h
  rw [h2] at this
  rw [Option.some.inj this]
  rfl
def DecPost (nm tx tx0 : ByteArray) (w : World) (e : Ending) (w' : World) : Prop := ∃ a c, e = .returned (.tuple #[.agg #[.string nm, .int .u32 (ck tx.data.toList : Nat), .slice a (words tx0).length c], .bool true]) ∧ StrsP (fun g => w.heap.size ≤ g ∧ g < w'.heap.size) w' (.slice a (words tx0).length c) (words tx0) ∧ Chg [] w w'
set_option maxRecDepth 100000 in
set_option maxHeartbeats 4000000 in
theorem decode_miss (nm : ByteArray) (ver : Int) (tx : ByteArray) (s' : Nat) (l : List ByteArray) (w : World) (ht : tx.size ≤ 2000) (hs' : s' < 4294967296) (hne : ck tx.data.toList ≠ s') :
    Calls Tryz.prog 26 #[.agg #[.string nm, .int .i64 ver, .string tx], .string (lb (encL s' l))] w fun e w' => e = .returned (.tuple #[.agg #[.string ⟨#[]⟩, .int .u32 0, .slice none 0 0], .bool false]) ∧ Chg [] w w' := by
  have hsl := ck_lt tx.data.toList
  have Hck := Lib.hid (fun W => checksum_any tx W (by omega))
  obtain ⟨s, hs⟩ : ∃ k, k = ck tx.data.toList := ⟨_, rfl⟩
  rw [← hs] at Hck hsl hne
  have Hcut := Lib.hid (fun W => cut_miss s s' l W hsl hs' hne)
  have Hhex := Lib.hid (fun W => hex_any s W hsl)
  obtain ⟨v, hv⟩ : ∃ v, v = lb (encL s' l) := ⟨_, rfl⟩
  obtain ⟨hx, hhx⟩ : ∃ v, v = lb (hx8 s) := ⟨_, rfl⟩
  rw [← hv, ← hhx] at Hcut
  rw [← hhx] at Hhex
  rw [← hv]
  clear hs hv hhx hs' hne
  obtain ⟨w1, hw1⟩ : ∃ q, q = (w.alloc (.cells #[.string nm, .int .i64 ver, .string tx] 34)).alloc (.cells #[.string ⟨#[]⟩, .int .u32 0, .slice none 0 0] 40) := ⟨_, rfl⟩
  obtain ⟨n1, hn1⟩ : ∃ n, n = w.heap.size := ⟨_, rfl⟩
  obtain ⟨n2, hn2⟩ : ∃ n, n = w.heap.size + 1 := ⟨_, rfl⟩
  have hc1 : Chg [] w w1 := by rw [hw1]; exact ((Chg.refl [] w).alloc _).alloc _
  have hb1 : w1.heap[n1]? = some (.cells #[.string nm, .int .i64 ver, .string tx] 34 (0, 0)) := by rw [hw1, hn1]; exact (heap_past _ _ _ (by simp)).trans (heap_at _ _ _ rfl)
  have hb2 : w1.heap[n2]? = some (.cells #[.string ⟨#[]⟩, .int .u32 0, .slice none 0 0] 40 (0, 0)) := by rw [hw1, hn2]; exact heap_at _ _ _ (by simp)
  have x2 : w1.cell? ⟨n1, 2, none⟩ = some (.string tx) := cell_of_heap hb1 rfl
  have lx := lt_of_cell x2
  have hge : w.heap.size ≤ n2 := by omega
  have HW := Lib.hid (And.intro hw1 (And.intro hn1 hn2))
  have H1 := Lib.hid (And.intro hc1 (And.intro hb1 hb2))
  clear hw1 hn1 hn2 hc1 hb1 hb2
  go_enter Tryz.func26, Tryz.ntmps26
  go_upto_region 1 with (fail)
  rw [← HW.out.1, ← HW.out.2.2, ← HW.out.2.1]
  go_wp2_with fail
  refine (Hck.out _).mono ?_
  rintro e wX ⟨rfl, hX⟩; rw [← hX]; clear hX
  go_wp2_with fail
  refine (Hhex.out _).mono ?_
  rintro e w2 ⟨rfl, hc2⟩
  have hb2 := (hc2.block _ (lt_of_obj H1.out.2.2) (by simp)).trans H1.out.2.2
  have y0 : w2.cell? ⟨n2, 0, none⟩ = some (.string ⟨#[]⟩) := cell_of_heap hb2 rfl
  have y1 : w2.cell? ⟨n2, 1, none⟩ = some (.int .u32 0) := cell_of_heap hb2 rfl
  have y2 : w2.cell? ⟨n2, 2, none⟩ = some (.slice none 0 0) := cell_of_heap hb2 rfl
  have f0 : w2.frozen? ⟨n2, 0, none⟩ = false := frozen_of_heap hb2
  have f1 : w2.frozen? ⟨n2, 1, none⟩ = false := frozen_of_heap hb2
  have f2 : w2.frozen? ⟨n2, 2, none⟩ = false := frozen_of_heap hb2
  have ly := lt_of_cell y0
  have H2 := Lib.hid (And.intro (H1.out.1.trans hc2) hb2)
  clear hc2 hb2
  go_wp2_with fail
  refine (Hcut.out _).mono ?_
  rintro e wX ⟨rfl, hX⟩; rw [hX]; clear hX
  go_wp2_with fail
  obtain ⟨w9, hw9⟩ : ∃ q, q = ((w2.setCell ⟨n2, 0, none⟩ (.string ⟨#[]⟩)).setCell ⟨n2, 1, none⟩ (.int .u32 0)).setCell ⟨n2, 2, none⟩ (.slice none 0 0) := ⟨_, rfl⟩
  have hb9 : w9.heap[n2]? = some (.cells #[.string ⟨#[]⟩, .int .u32 0, .slice none 0 0] 40 (0, 0)) := by
    rw [hw9]
    exact heap_setCell_same (heap_setCell_same (heap_setCell_same H2.out.2 _) _) _
  have hc9 : Chg [n2] w2 w9 := by
    rw [hw9]
    exact (((Chg.refl [n2] w2).setCell (p := ⟨n2, 0, none⟩) (Or.inl (by simp)) _).setCell (p := ⟨n2, 1, none⟩) (Or.inl (by simp)) _).setCell (p := ⟨n2, 2, none⟩) (Or.inl (by simp)) _
  rw [← hw9]
  have r0 : w9.cell? ⟨n2, 0, none⟩ = some (.string ⟨#[]⟩) := cell_of_heap hb9 rfl
  have r1 : w9.cell? ⟨n2, 1, none⟩ = some (.int .u32 0) := cell_of_heap hb9 rfl
  have r2 : w9.cell? ⟨n2, 2, none⟩ = some (.slice none 0 0) := cell_of_heap hb9 rfl
  refine bodyPost_ret (v := .tuple #[.agg #[.string ⟨#[]⟩, .int .u32 0, .slice none 0 0], .bool false]) (by simp [results, Tryz.results26, go_sem, r0, r1, r2]) rfl ⟨rfl, ?_⟩
  exact H2.out.1.comp hc9 fun g hg => Or.inr (by rw [List.mem_singleton.1 hg]; exact hge)
set_option maxRecDepth 100000 in
set_option maxHeartbeats 4000000 in
theorem decode_hit (nm : ByteArray) (ver : Int) (tx tx0 : ByteArray) (w : World) (ht : tx.size ≤ 2000) (ht0 : tx0.size ≤ 2000) (hM : ML w) :
    Calls Tryz.prog 26 #[.agg #[.string nm, .int .i64 ver, .string tx], .string (lb (encL (ck tx.data.toList) (words tx0)))] w (DecPost nm tx tx0 w) := by
  have hsl := ck_lt tx.data.toList
  have Hck := Lib.hid (fun W => checksum_any tx W (by omega))
  obtain ⟨s, hs⟩ : ∃ k, k = ck tx.data.toList := ⟨_, rfl⟩
  unfold DecPost
  have hw := words_ok tx0 ht0
  obtain ⟨l, hl⟩ : ∃ l, l = words tx0 := ⟨_, rfl⟩
  rw [← hs] at Hck hsl
  rw [← hs, ← hl]
  rw [← hl] at hw
  have Hcut := Lib.hid (fun W => cut_hit s l W)
  have Hhex := Lib.hid (fun W => hex_any s W hsl)
  obtain ⟨v, hv⟩ : ∃ v, v = lb (encL s l) := ⟨_, rfl⟩
  obtain ⟨hx, hhx⟩ : ∃ v, v = lb (hx8 s) := ⟨_, rfl⟩
  rw [← hv, ← hhx] at Hcut
  have Hvw := Lib.hid (fun W => fun (u : Value) (p : Nat → Prop) (h : StrsP p W u l) => validWords_any p W u l h hw)
  rw [← hhx] at Hhex
  rw [← hv]
  obtain ⟨rest, hrest⟩ : ∃ t, t = lb (tailW l) := ⟨_, rfl⟩
  rw [← hrest] at Hcut
  have Hrest := Lib.hid hrest
  have Hsp := Lib.hid (fun (h0 : l ≠ []) W (hM : ML W) => split_any' l hw h0 W hM)
  rw [← hrest] at Hsp
  clear hs hv hhx hl hrest
  have HM := Lib.hid hM
  have hlen := hw.len
  have Hw := Lib.hid hw
  clear hM hw
  obtain ⟨w1, hw1⟩ : ∃ q, q = (w.alloc (.cells #[.string nm, .int .i64 ver, .string tx] 34)).alloc (.cells #[.string ⟨#[]⟩, .int .u32 0, .slice none 0 0] 40) := ⟨_, rfl⟩
  obtain ⟨n1, hn1⟩ : ∃ n, n = w.heap.size := ⟨_, rfl⟩
  obtain ⟨n2, hn2⟩ : ∃ n, n = w.heap.size + 1 := ⟨_, rfl⟩
  have hc1 : Chg [] w w1 := by rw [hw1]; exact ((Chg.refl [] w).alloc _).alloc _
  have hb1 : w1.heap[n1]? = some (.cells #[.string nm, .int .i64 ver, .string tx] 34 (0, 0)) := by rw [hw1, hn1]; exact (heap_past _ _ _ (by simp)).trans (heap_at _ _ _ rfl)
  have hb2 : w1.heap[n2]? = some (.cells #[.string ⟨#[]⟩, .int .u32 0, .slice none 0 0] 40 (0, 0)) := by rw [hw1, hn2]; exact heap_at _ _ _ (by simp)
  have x0 : w1.cell? ⟨n1, 0, none⟩ = some (.string nm) := cell_of_heap hb1 rfl
  have x2 : w1.cell? ⟨n1, 2, none⟩ = some (.string tx) := cell_of_heap hb1 rfl
  have lx := lt_of_cell x2
  have hge : w.heap.size ≤ n2 := by omega
  have HW := Lib.hid (And.intro hw1 (And.intro hn1 hn2))
  have H1 := Lib.hid (And.intro hc1 (And.intro hb1 hb2))
  clear hw1 hn1 hn2 hc1 hb1 hb2
  go_enter Tryz.func26, Tryz.ntmps26
  go_upto_region 1 with (fail)
  rw [← HW.out.1, ← HW.out.2.2, ← HW.out.2.1]
  go_wp2_with fail
  refine (Hck.out _).mono ?_
  rintro e wX ⟨rfl, hX⟩; rw [← hX]; clear hX
  go_wp2_with fail
  refine (Hhex.out _).mono ?_
  rintro e w2 ⟨rfl, hc2⟩
  have hb2 := (hc2.block _ (lt_of_obj H1.out.2.2) (by simp)).trans H1.out.2.2
  have y0 : w2.cell? ⟨n2, 0, none⟩ = some (.string ⟨#[]⟩) := cell_of_heap hb2 rfl
  have y1 : w2.cell? ⟨n2, 1, none⟩ = some (.int .u32 0) := cell_of_heap hb2 rfl
  have y2 : w2.cell? ⟨n2, 2, none⟩ = some (.slice none 0 0) := cell_of_heap hb2 rfl
  have f0 : w2.frozen? ⟨n2, 0, none⟩ = false := frozen_of_heap hb2
  have f1 : w2.frozen? ⟨n2, 1, none⟩ = false := frozen_of_heap hb2
  have f2 : w2.frozen? ⟨n2, 2, none⟩ = false := frozen_of_heap hb2
  have ly := lt_of_cell y0
  have x0' := (hc2.cell (p := ⟨n1, 0, none⟩) lx (by simp)).trans x0
  have lx' := lt_of_cell x0'
  clear x0 x2 lx
  have H2 := Lib.hid (And.intro (H1.out.1.trans hc2) hb2)
  clear hc2 hb2
  go_wp2_with fail
  have HMe := Lib.hid (HM.out.new H2.out.1)
  refine (Hcut.out _).mono ?_
  rintro e wX ⟨rfl, hX⟩; rw [hX]; clear hX
  by_cases h0 : l = []
  · have hr : rest = ⟨#[]⟩ := by rw [Hrest.out, h0]; rfl
    subst hr
    subst h0
    go_wp2_with fail
    have hcw := H2.out.1
    obtain ⟨w5, hw5⟩ : ∃ q, q = w2.alloc (.cells #[.string nm, .int .u32 (s : Nat), .slice none 0 0] 40) := ⟨_, rfl⟩
    obtain ⟨n3, hn3⟩ : ∃ q, q = w2.heap.size := ⟨_, rfl⟩
    rw [← hw5, ← hn3]
    have hc5 : Chg [] w2 w5 := by rw [hw5]; exact (Chg.refl _ _).alloc _
    have e3 : w5.heap[n3]? = some (.cells #[.string nm, .int .u32 (s : Nat), .slice none 0 0] 40 (0, 0)) := by rw [hw5, hn3]; exact heap_at _ _ _ rfl
    have e2 := (hc5.block _ (lt_of_obj H2.out.2) (by simp)).trans H2.out.2
    have hst : StrsP (fun g => w.heap.size ≤ g ∧ g < w5.heap.size ∧ g ≠ n2) w5 (.slice none 0 0) [] := SlR.nil _ _ _ _
    have hcw := H2.out.1.trans hc5
    clear hw5 hn3 hc5
    have Hs5 := Lib.hid (And.intro hst (And.intro e3 (And.intro e2 hcw)))
    clear hst e3 e2 hcw
    refine wp_region_readsQ 4 (by kernel_rfl) (by kernel_rfl) ?_
    intro wd hwd
    simp only [List.take_succ_cons, List.take_zero, List.drop_succ_cons, List.drop_zero]
    have hcd : Chg [] w5 wd := by rw [hwd]; exact (Chg.refl _ _).drew
    have e3 := (hcd.block _ (lt_of_obj Hs5.out.2.1) (by simp)).trans Hs5.out.2.1
    have e2 := (hcd.block _ (lt_of_obj Hs5.out.2.2.1) (by simp)).trans Hs5.out.2.2.1
    have z0 : wd.cell? ⟨n3, 0, none⟩ = some (.string nm) := cell_of_heap e3 rfl
    have z1 : wd.cell? ⟨n3, 1, none⟩ = some (.int .u32 (s : Nat)) := cell_of_heap e3 rfl
    have z2 : wd.cell? ⟨n3, 2, none⟩ = some (.slice none 0 0) := cell_of_heap e3 rfl
    have u0 : wd.cell? ⟨n2, 0, none⟩ = some (.string ⟨#[]⟩) := cell_of_heap e2 rfl
    have u1 : wd.cell? ⟨n2, 1, none⟩ = some (.int .u32 0) := cell_of_heap e2 rfl
    have u2 : wd.cell? ⟨n2, 2, none⟩ = some (.slice none 0 0) := cell_of_heap e2 rfl
    have v0 : wd.frozen? ⟨n2, 0, none⟩ = false := frozen_of_heap e2
    have v1 : wd.frozen? ⟨n2, 1, none⟩ = false := frozen_of_heap e2
    have v2 : wd.frozen? ⟨n2, 2, none⟩ = false := frozen_of_heap e2
    have l6 := lt_of_cell u0
    have l7 := lt_of_cell z0
    have hst := Hs5.out.1.same hcd
    have hsz := hcd.size
    have Hv := Lib.hid (Hvw.out wd _ _ hst)
    have H6 := Lib.hid (And.intro hst (And.intro e2 (Hs5.out.2.2.2.trans hcd)))
    clear hwd hcd hst e3 e2
    iterate 3 go_big_quiet_step (fail)
    go_big_quiet_want
    go_big_quiet_op
    refine ⟨_, Hv.out, ?_⟩
    go_big_quiet_on
    repeat go_big_quiet_step (fail)
    refine wpQuiet_nil ?_
    go_wp2_with fail
    obtain ⟨hs, e2, hc6⟩ := H6.out
    obtain ⟨w9, hw9⟩ : ∃ q, q = ((wd.setCell ⟨n2, 0, none⟩ (.string nm)).setCell ⟨n2, 1, none⟩ (.int .u32 (s : Nat))).setCell ⟨n2, 2, none⟩ (.slice none 0 0) := ⟨_, rfl⟩
    have hb9 : w9.heap[n2]? = some (.cells #[.string nm, .int .u32 (s : Nat), .slice none 0 0] 40 (0, 0)) := by
      rw [hw9]
      exact heap_setCell_same (heap_setCell_same (heap_setCell_same e2 _) _) _
    have hc9 : Chg [n2] wd w9 := by
      rw [hw9]
      exact (((Chg.refl [n2] wd).setCell (p := ⟨n2, 0, none⟩) (Or.inl (by simp)) _).setCell (p := ⟨n2, 1, none⟩) (Or.inl (by simp)) _).setCell (p := ⟨n2, 2, none⟩) (Or.inl (by simp)) _
    rw [← hw9]
    have r0 : w9.cell? ⟨n2, 0, none⟩ = some (.string nm) := cell_of_heap hb9 rfl
    have r1 : w9.cell? ⟨n2, 1, none⟩ = some (.int .u32 (s : Nat)) := cell_of_heap hb9 rfl
    have r2 : w9.cell? ⟨n2, 2, none⟩ = some (.slice none 0 0) := cell_of_heap hb9 rfl
    refine bodyPost_ret (v := .tuple #[.agg #[.string nm, .int .u32 (s : Nat), .slice none 0 0], .bool true]) (by simp [results, Tryz.results26, go_sem, r0, r1, r2]) rfl ⟨none, 0, rfl, ?_, ?_⟩
    · refine (StrsP.kept hs hc9.toP (fun g hg hm => hg.2.2 (List.mem_singleton.1 hm))).imp fun g hg => ⟨hg.1, ?_⟩
      have h9 := hc9.size
      have h8 : g < wd.heap.size := by have := Hs5.out; exact Nat.lt_of_lt_of_le hg.2.1 hsz
      omega
    · exact hc6.comp hc9 fun g hg => Or.inr (by rw [List.mem_singleton.1 hg]; exact hge)
  · have hps : 0 < rest.size := by
      rw [Hrest.out, lb_size]
      cases l with
      | nil => exact absurd rfl h0
      | cons y r => simp [tailW]
    have hne : rest.toList.isEmpty = false := by
      have := ne_toList hps
      cases hq : rest.toList with
      | nil => rw [hq] at this; simp at this
      | cons _ _ => rfl
    have hr0 : rest[0]'hps = 32 := by
      have hh := Hrest.out
      cases l with
      | nil => exact absurd rfl h0
      | cons y r => subst hh; exact UInt8.toNat_inj.1 (tail_head y r hps)
    have Hs2 := Lib.hid (Hsp.out h0)
    go_wp2_with fail
    have hml := HMe.out.new (w' := w2.alloc (.cells #[.string nm, .int .u32 (s : Nat), .slice none 0 0] 40)) ((Chg.refl _ _).alloc _)
    refine (Hs2.out _ hml).mono ?_
    rintro e w4 ⟨rfl, hw4⟩
    obtain ⟨w3, hw3⟩ : ∃ q, q = w2.alloc (.cells #[.string nm, .int .u32 (s : Nat), .slice none 0 0] 40) := ⟨_, rfl⟩
    obtain ⟨n3, hn3⟩ : ∃ q, q = w2.heap.size := ⟨_, rfl⟩
    obtain ⟨n4, hn4⟩ : ∃ q, q = w3.heap.size := ⟨_, rfl⟩
    rw [← hw3] at hw4 ⊢
    rw [← hn3, ← hn4]
    have hc3 : Chg [] w2 w3 := by rw [hw3]; exact (Chg.refl _ _).alloc _
    have hc4 : Chg [] w3 w4 := by rw [hw4]; exact (Chg.refl _ _).alloc _
    have e3 : w3.heap[n3]? = some (.cells #[.string nm, .int .u32 (s : Nat), .slice none 0 0] 40 (0, 0)) := by rw [hw3, hn3]; exact heap_at _ _ _ rfl
    have e3 := (hc4.block _ (lt_of_obj e3) (by simp)).trans e3
    have e4 : w4.heap[n4]? = some (.cells (l.map Value.string).toArray 9 (0, 0)) := by rw [hw4, hn4]; exact heap_at _ _ _ rfl
    have e2 := ((hc3.trans hc4).block _ (lt_of_obj H2.out.2) (by simp)).trans H2.out.2
    have z2 : w4.cell? ⟨n3, 2, none⟩ = some (.slice none 0 0) := cell_of_heap e3 rfl
    have v2 : w4.frozen? ⟨n3, 2, none⟩ = false := frozen_of_heap e3
    have l4 := lt_of_cell z2
    have hl2 : n2 < w2.heap.size := lt_of_obj H2.out.2
    have hn23 : n2 < n3 := by rw [hn3]; exact hl2
    have hn34 : n3 < n4 := by rw [hn4, hn3, hw3]; simp
    have H4 := Lib.hid (And.intro e4 (And.intro e3 (And.intro e2 (And.intro (H2.out.1.trans (hc3.trans hc4)) (And.intro hn23 hn34)))))
    clear hw3 hw4 hn3 hn4 hc3 hc4 e3 e4 e2 hl2 hn23 hn34 hml
    go_wp2_with fail
    obtain ⟨e4, e3, e2, hc4, hn23, hn34⟩ := H4.out
    obtain ⟨w5, hw5⟩ : ∃ q, q = w4.setCell ⟨n3, 2, none⟩ (.slice (some ⟨n4, 0, none⟩) l.length l.length) := ⟨_, rfl⟩
    rw [← hw5]
    have hc5 : Chg [n3] w4 w5 := by rw [hw5]; exact (Chg.refl [n3] w4).setCell (p := ⟨n3, 2, none⟩) (Or.inl (by simp)) _
    have e3 : w5.heap[n3]? = some (.cells #[.string nm, .int .u32 (s : Nat), .slice (some ⟨n4, 0, none⟩) l.length l.length] 40 (0, 0)) := by rw [hw5]; exact heap_setCell_same e3 _
    have e2 := (hc5.block n2 (lt_of_obj e2) (by simp; omega)).trans e2
    have e4 := (hc5.block n4 (lt_of_obj e4) (by simp; omega)).trans e4
    have hst : StrsP (fun g => w.heap.size ≤ g ∧ g < w5.heap.size ∧ g ≠ n2) w5 (.slice (some ⟨n4, 0, none⟩) l.length l.length) l := by
      refine ⟨_, _, rfl, Nat.le_refl _, by unfold maxLen; omega, fun _ => ⟨n4, 0, rfl, ⟨by omega, lt_of_obj e4, by omega⟩, fun j hj => ?_⟩⟩
      unfold rdStr
      exact cell_of_heap e4 (by simp [hj])
    have hcw := hc4.comp hc5 (fun g hg => Or.inr (by rw [List.mem_singleton.1 hg]; omega))
    clear hw5 hc5 e4
    have Hs5 := Lib.hid (And.intro hst (And.intro e3 (And.intro e2 hcw)))
    clear hst e3 e2 hcw
    refine wp_region_readsQ 4 (by kernel_rfl) (by kernel_rfl) ?_
    intro wd hwd
    simp only [List.take_succ_cons, List.take_zero, List.drop_succ_cons, List.drop_zero]
    have hcd : Chg [] w5 wd := by rw [hwd]; exact (Chg.refl _ _).drew
    have e3 := (hcd.block _ (lt_of_obj Hs5.out.2.1) (by simp)).trans Hs5.out.2.1
    have e2 := (hcd.block _ (lt_of_obj Hs5.out.2.2.1) (by simp)).trans Hs5.out.2.2.1
    have z0 : wd.cell? ⟨n3, 0, none⟩ = some (.string nm) := cell_of_heap e3 rfl
    have z1 : wd.cell? ⟨n3, 1, none⟩ = some (.int .u32 (s : Nat)) := cell_of_heap e3 rfl
    have z2 : wd.cell? ⟨n3, 2, none⟩ = some (.slice (some ⟨n4, 0, none⟩) l.length l.length) := cell_of_heap e3 rfl
    have u0 : wd.cell? ⟨n2, 0, none⟩ = some (.string ⟨#[]⟩) := cell_of_heap e2 rfl
    have u1 : wd.cell? ⟨n2, 1, none⟩ = some (.int .u32 0) := cell_of_heap e2 rfl
    have u2 : wd.cell? ⟨n2, 2, none⟩ = some (.slice none 0 0) := cell_of_heap e2 rfl
    have v0 : wd.frozen? ⟨n2, 0, none⟩ = false := frozen_of_heap e2
    have v1 : wd.frozen? ⟨n2, 1, none⟩ = false := frozen_of_heap e2
    have v2 : wd.frozen? ⟨n2, 2, none⟩ = false := frozen_of_heap e2
    have l6 := lt_of_cell u0
    have l7 := lt_of_cell z0
    have hst := Hs5.out.1.same hcd
    have hsz := hcd.size
    have Hv := Lib.hid (Hvw.out wd _ _ hst)
    have H6 := Lib.hid (And.intro hst (And.intro e2 (Hs5.out.2.2.2.trans hcd)))
    clear hwd hcd hst e3 e2
    iterate 3 go_big_quiet_step (fail)
    go_big_quiet_want
    go_big_quiet_op
    refine ⟨_, Hv.out, ?_⟩
    go_big_quiet_on
    repeat go_big_quiet_step (fail)
    refine wpQuiet_nil ?_
    go_wp2_with fail
    obtain ⟨hs, e2, hc6⟩ := H6.out
    obtain ⟨w9, hw9⟩ : ∃ q, q = ((wd.setCell ⟨n2, 0, none⟩ (.string nm)).setCell ⟨n2, 1, none⟩ (.int .u32 (s : Nat))).setCell ⟨n2, 2, none⟩ (.slice (some ⟨n4, 0, none⟩) l.length l.length) := ⟨_, rfl⟩
    have hb9 : w9.heap[n2]? = some (.cells #[.string nm, .int .u32 (s : Nat), .slice (some ⟨n4, 0, none⟩) l.length l.length] 40 (0, 0)) := by
      rw [hw9]
      exact heap_setCell_same (heap_setCell_same (heap_setCell_same e2 _) _) _
    have hc9 : Chg [n2] wd w9 := by
      rw [hw9]
      exact (((Chg.refl [n2] wd).setCell (p := ⟨n2, 0, none⟩) (Or.inl (by simp)) _).setCell (p := ⟨n2, 1, none⟩) (Or.inl (by simp)) _).setCell (p := ⟨n2, 2, none⟩) (Or.inl (by simp)) _
    rw [← hw9]
    have r0 : w9.cell? ⟨n2, 0, none⟩ = some (.string nm) := cell_of_heap hb9 rfl
    have r1 : w9.cell? ⟨n2, 1, none⟩ = some (.int .u32 (s : Nat)) := cell_of_heap hb9 rfl
    have r2 : w9.cell? ⟨n2, 2, none⟩ = some (.slice (some ⟨n4, 0, none⟩) l.length l.length) := cell_of_heap hb9 rfl
    refine bodyPost_ret (v := .tuple #[.agg #[.string nm, .int .u32 (s : Nat), .slice (some ⟨n4, 0, none⟩) l.length l.length], .bool true]) (by simp [results, Tryz.results26, go_sem, r0, r1, r2]) rfl ⟨some ⟨n4, 0, none⟩, l.length, rfl, ?_, ?_⟩
    · refine (StrsP.kept hs hc9.toP (fun g hg hm => hg.2.2 (List.mem_singleton.1 hm))).imp fun g hg => ⟨hg.1, ?_⟩
      have h9 := hc9.size
      have h8 : g < wd.heap.size := by have := Hs5.out; exact Nat.lt_of_lt_of_le hg.2.1 hsz
      omega
    · exact hc6.comp hc9 fun g hg => Or.inr (by rw [List.mem_singleton.1 hg]; exact hge)
end Go.Proofs.YticfigfipbcmhaaGreatDoor
