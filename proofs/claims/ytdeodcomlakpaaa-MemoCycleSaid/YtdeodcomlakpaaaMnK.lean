/- update. -/
import Derived.Test.YtdeodcomlakpaaaMnJ
namespace Go.Proofs.Ytdeodcomlakpaaa
open Go.RowKit Go.ChangeMaps Go.MapKept
set_option linter.unusedVariables false
set_option linter.unusedSimpArgs false
section
variable {w0 : World} {RO : Nat → Prop} {b : Nat} {comp stop : Value} {K : PS → QK → Prop} {Kk : QK → Prop} {U : PS → QK → Except Int Unit × PS} {C : QK → (GS → QK → Except Int (List Int) × GS) → GS → Except Int (List Int) × GS} {stp : PS → Bool}
def begP (s : PS) (k : QK) : PS := { s with act := ups s.act k 1 }
theorem updP_busy {s : PS} {k : QK} (h : s.busy k ≠ 0) : updP U C stp s k = (.error 8, s) := by unfold updP; rw [if_pos h]
theorem updP_none {s : PS} {k : QK} (h : s.busy k = 0) (e : aget s.es k = none) : updP U C stp s k = thenFin k (recompP U C stp (begP s k) k) := by
  unfold updP begP; rw [if_neg (by simpa using h)]; simp only [e]
theorem updP_yes {s s2 : PS} {k : QK} {r : RV} (h : s.busy k = 0) (e : aget s.es k = some r) (hv : validP U (begP s k) r = (.ok true, s2)) : updP U C stp s k = (.ok (), finP s2 k) := by
  unfold begP at hv; unfold updP; rw [if_neg (by simpa using h)]; simp only [e]; rw [hv]
theorem updP_no {s s2 : PS} {k : QK} {r : RV} (h : s.busy k = 0) (e : aget s.es k = some r) (hv : validP U (begP s k) r = (.ok false, s2)) : updP U C stp s k = thenFin k (recompP U C stp s2 k) := by
  unfold begP at hv; unfold updP; rw [if_neg (by simpa using h)]; simp only [e]; rw [hv]
theorem updP_err {s s2 : PS} {k : QK} {r : RV} {x : Int} (h : s.busy k = 0) (e : aget s.es k = some r) (hv : validP U (begP s k) r = (.error x, s2)) : updP U C stp s k = (.error x, s2) := by
  unfold begP at hv; unfold updP; rw [if_neg (by simpa using h)]; simp only [e]; rw [hv]
/-- update's end -/
theorem upd_end {key : QK} {w wx we : World} {d dx : Dm} {r : Rs} {o : Obj} (hn : NextK key b w wx d dx) (hact : aget d.act key = none) (hr : aget dx.es key = some r) (hf : updP U C stp d.pl key = (.ok (), finP dx.pl key))
    (hwe : ∀ g : Nat, we.heap[g]? = (((wx.setCell ⟨r.blk, 2, none⟩ (.int .i64 dx.S.rev)).setCell ⟨b, 6, none⟩ (.int .i64 (wrap64 (dx.clk + 1)))).setCell ⟨r.blk, 6, none⟩ (.int .i64 (wrap64 (dx.clk + 1)))).heap[g]?) (hch : Chg [] (((wx.setCell ⟨r.blk, 2, none⟩ (.int .i64 dx.S.rev)).setCell ⟨b, 6, none⟩ (.int .i64 (wrap64 (dx.clk + 1)))).setCell ⟨r.blk, 6, none⟩ (.int .i64 (wrap64 (dx.clk + 1)))) we)
    (hm : ∀ (h : MapAt Try.prog 27 Inp.qk we dx.ba (amap (Value.int .i64) dx.act)), MapAt Try.prog 27 Inp.qk (setBlock we dx.ba o) dx.ba (adel (amap (Value.int .i64) dx.act) key)) :
    UPost (updP U C stp) chI b key w d (.returned r.val) (setBlock we dx.ba o) := by
  obtain ⟨p1, p2, p3, p4, p5, p6, p7, p8, p9, p10, p11, p12⟩ := Dm.parts hn.mem.nodup
  have hrm := aget_mem hr
  have hrb : r.blk ≠ b := (p11 _ hrm).1
  have hrs := hn.mem.rs hr
  have hrmut : r.blk ∈ dx.muts b := Dm.mut_mem hrm
  have hc : ChgP (fun g => g = r.blk ∨ g = b) wx (((wx.setCell ⟨r.blk, 2, none⟩ (.int .i64 dx.S.rev)).setCell ⟨b, 6, none⟩ (.int .i64 (wrap64 (dx.clk + 1)))).setCell ⟨r.blk, 6, none⟩ (.int .i64 (wrap64 (dx.clk + 1)))) :=
    (((ChgP.refl (fun g => g = r.blk ∨ g = b) wx).setCell (p := ⟨r.blk, 2, none⟩) (Or.inl (Or.inl rfl)) _).setCell (p := ⟨b, 6, none⟩) (Or.inl (Or.inr rfl)) _).setCell (p := ⟨r.blk, 6, none⟩) (Or.inl (Or.inl rfl)) _
  have h1 : (((wx.setCell ⟨r.blk, 2, none⟩ (.int .i64 dx.S.rev)).setCell ⟨b, 6, none⟩ (.int .i64 (wrap64 (dx.clk + 1)))).setCell ⟨r.blk, 6, none⟩ (.int .i64 (wrap64 (dx.clk + 1)))).heap[r.blk]? = some (.cells #[.slice r.a r.xs.length r.cap, .string ⟨#[]⟩, .int .i64 dx.S.rev, .int .i64 r.chg, .int .i64 r.dur, .slice r.da r.deps.length r.dcap, .int .i64 (wrap64 (dx.clk + 1))] 106 (0, 0)) :=
    (heap_setCell_same ((heap_setCell_ne _ _ _ _ hrb).trans (heap_setCell_same hrs.blk _)) _).trans rfl
  have h2 : (((wx.setCell ⟨r.blk, 2, none⟩ (.int .i64 dx.S.rev)).setCell ⟨b, 6, none⟩ (.int .i64 (wrap64 (dx.clk + 1)))).setCell ⟨r.blk, 6, none⟩ (.int .i64 (wrap64 (dx.clk + 1)))).heap[b]? = some (.cells #[dx.comp, .pointer (some ⟨dx.bs, 0, none⟩), .map (some dx.br), .map (some dx.ba), dx.stop, .int .i64 dx.cnt, .int .i64 (wrap64 (dx.clk + 1))] 88 (0, 0)) :=
    (heap_setCell_ne _ _ _ _ (Ne.symm hrb)).trans ((heap_setCell_same ((heap_setCell_ne _ _ _ _ (Ne.symm hrb)).trans hn.mem.blk) _).trans rfl)
  have himm : ∀ g ∈ r.imm, ¬ (g = r.blk ∨ g = b) := fun g hg e => e.elim (fun e => hn.mem.apart g (Dm.imm_mem hrm hg) (e ▸ hrmut)) fun e => hn.mem.apart g (Dm.imm_mem hrm hg) (e ▸ by simp [Dm.muts])
  have hr' : RsAt _ { r with ver := dx.S.rev, use := wrap64 (dx.clk + 1) } := ⟨h1, intsKept' hrs.nums fun g hg => hc.block g (hn.mem.bound g (Dm.imm_mem hrm (List.mem_append_left _ hg))) (himm g (List.mem_append_left _ hg)), hrs.size, i3sKept' hrs.deps fun g hg => hc.block g (hn.mem.bound g (Dm.imm_mem hrm (List.mem_append_right _ hg))) (himm g (List.mem_append_right _ hg))⟩
  have ht := hn.mem.touch (r' := { r with ver := dx.S.rev, use := wrap64 (dx.clk + 1) }) hr hc rfl rfl hr' h2
  have hte := ht.new hch
  have hm' := hm hte.act
  rw [adel_amap] at hm'
  have hfin := hte.setAct hm'
  have hcb : ChgP (fun g => g = dx.ba) we (setBlock we dx.ba o) := (ChgP.refl (fun g => g = dx.ba) we).setBlock (Or.inl rfl) o
  have hx : NextK key b wx (setBlock we dx.ba o) dx { dx with es := ups dx.es key { r with ver := dx.S.rev, use := wrap64 (dx.clk + 1) }, clk := wrap64 (dx.clk + 1), act := adel dx.act key } := by
    refine ⟨hfin, ((hc.mono fun g hg => ?_).new hch).comp hcb fun g hg => Or.inl ?_, fun g hg => Or.inl ?_, fun g hg => Or.inl ?_, rfl, rfl, rfl, rfl, rfl, rfl, rfl, fun k v hne hk => ⟨?_, ?_⟩⟩
    · rcases hg with rfl | rfl
      · exact hrmut
      · simp [Dm.muts]
    · subst hg; simp [Dm.muts]
    · unfold Dm.muts at hg ⊢
      simp only [map_ups_same (r' := { r with ver := dx.S.rev, use := wrap64 (dx.clk + 1) }) hr rfl] at hg
      exact hg
    · rcases List.mem_append.1 hg with hg | hg
      · exact List.mem_append_left _ hg
      · rcases mem_ups_imms hg with hg | hg
        · exact Dm.imm_mem hrm hg
        · exact List.mem_append_right _ hg
    · show aget (adel dx.act key) k = some v
      rw [aget_adel, if_neg (Ne.symm hne)]
      exact hk
    · show aget (ups dx.es key _) k = _
      rw [aget_ups, if_neg (Ne.symm hne)]
  refine UPost.mkOk (u := ()) (d' := { dx with es := ups dx.es key { r with ver := dx.S.rev, use := wrap64 (dx.clk + 1) }, clk := wrap64 (dx.clk + 1), act := adel dx.act key }) (r := { r with ver := dx.S.rev, use := wrap64 (dx.clk + 1) }) ?_ ((hn.trans hx).toNext hact) ?_ rfl
  · rw [hf]
    unfold finP
    rw [Dm.res_pl hr]
    unfold Dm.pl
    simp only
    rw [← ups_amap]
    rfl
  · show aget (ups dx.es key _) key = _
    rw [aget_ups, if_pos rfl]
theorem int_zero (w : World) : (zeroValue 3).run Try.prog w = .ok (.int .i64 0) w := by kernel_rfl
set_option maxRecDepth 100000 in
set_option maxHeartbeats 8000000 in
theorem update_anyB (fam : UFam w0 RO b comp stop K U chI) (key : QK) (hkey : Inp.QKok key)
    (w : World) (d : Dm) (h : Env w0 RO b w d) (hc : d.comp = comp) (hs : d.stop = stop) (hact : d.pl.busy key = 0 → aget d.act key = none)
    (hre : d.pl.busy key = 0 → ∀ w d v, Env w0 RO b w d → d.comp = comp → d.stop = stop → aget d.act key = some v → (∀ k, Kk k → Inp.QKok k ∧ (k.1 ≠ 0 → K d.pl k)) → Calls Try.prog 90 #[.pointer (some ⟨b, 0, none⟩), i3v key] w (RPost (recompP U C stp) chI b key w d))
    (hks1 : d.pl.busy key = 0 → ∀ k, Kk k → Inp.QKok k ∧ (k.1 ≠ 0 → K (begP d.pl key) k)) (hdeps : ∀ r, aget d.es key = some r → (0 ≤ r.dur ∧ r.dur < 3) ∧ ∀ k ∈ r.deps, Inp.QKok k ∧ (k.1 ≠ 0 → K (begP d.pl key) k))
    (hks2 : ∀ r s2, aget d.es key = some r → validP U (begP d.pl key) r.pl = (.ok false, s2) → ∀ k, Kk k → Inp.QKok k ∧ (k.1 ≠ 0 → K s2 k)) :
    Calls Try.prog 68 #[.pointer (some ⟨b, 0, none⟩), i3v key] w (UPost (updP U C stp) chI b key w d) := by
  obtain ⟨k1, k2, k3⟩ := key
  obtain ⟨wa, hwa⟩ : ∃ x, x = w.alloc (.cells #[.int .i64 k1, .int .i64 k2, .int .i64 k3] 27) := ⟨_, rfl⟩
  have hca : Chg [] w wa := by rw [hwa]; exact (Chg.refl [] w).alloc _
  have hkb : wa.heap[w.heap.size]? = some (.cells #[.int .i64 k1, .int .i64 k2, .int .i64 k3] 27 (0, 0)) := by rw [hwa]; exact heap_at _ _ _ rfl
  have Ha := Lib.hid (h.new hca)
  have Hkn := Lib.hid (show w.heap.size ∉ d.muts b from fun hm => by have := h.mem.lt _ hm; omega)
  have H := Lib.hid h
  have Hc := Lib.hid hc
  have Hs := Lib.hid hs
  have Hact := Lib.hid hact
  have Hks1 := Lib.hid hks1
  have Hdeps := Lib.hid hdeps
  have Hks2 := Lib.hid hks2
  have Hre := Lib.hid hre
  have Hkey := Lib.hid hkey
  have Hca := Lib.hid hca
  have Hkb := Lib.hid hkb
  have q3 : wa.cell? ⟨b, 3, none⟩ = some (.map (some d.ba)) := cell_of_heap Ha.out.mem.blk rfl
  have e0 : wa.cell? ⟨w.heap.size, 0, none⟩ = some (.int .i64 k1) := cell_of_heap hkb rfl
  have e1 : wa.cell? ⟨w.heap.size, 1, none⟩ = some (.int .i64 k2) := cell_of_heap hkb rfl
  have e2 : wa.cell? ⟨w.heap.size, 2, none⟩ = some (.int .i64 k3) := cell_of_heap hkb rfl
  clear h hc hs hact hks1 hdeps hks2 hre hkey hca hkb
  unfold i3v
  go_enter Try.func68, Try.ntmps68
  go_wp2_with fail
  rw [← hwa]
  clear hwa
  refine wp_region_readsQ 6 (by kernel_rfl) (by kernel_rfl) ?_
  intro wd hwd
  simp only [List.take_succ_cons, List.take_zero, List.drop_succ_cons, List.drop_zero]
  have hcd : Chg [] wa wd := by rw [hwd]; exact (Chg.refl _ _).drew
  have q3d := (hcd.cell (lt_of_cell q3) (by simp)).trans q3
  have e0d := (hcd.cell (lt_of_cell e0) (by simp)).trans e0
  have e1d := (hcd.cell (lt_of_cell e1) (by simp)).trans e1
  have e2d := (hcd.cell (lt_of_cell e2) (by simp)).trans e2
  have hlk := (Ha.out.new hcd).mem.act.lookup Inp.qkeyed Inp.qk_inj Try.underlying86 (Inp.qkOk Hkey.out) (int_zero wd) false
  rw [aget_amap] at hlk
  unfold Inp.qk at hlk
  have hbz : ((aget d.act (k1, k2, k3)).map (Value.int .i64)).getD (.int .i64 0) = .int .i64 (d.pl.busy (k1, k2, k3)) := by
    unfold PS.busy
    show _ = Value.int .i64 ((aget d.act (k1, k2, k3)).getD 0)
    cases aget d.act (k1, k2, k3) <;> rfl
  simp only [hbz, Bool.false_eq_true, if_false] at hlk
  clear hbz
  have Hd := Lib.hid (Ha.out.new hcd)
  have Hkd := Lib.hid ((hcd.block _ (lt_of_obj Hkb.out) (by simp)).trans Hkb.out)
  have Hcd := Lib.hid (Hca.out.trans hcd)
  clear hwd hcd q3 e0 e1 e2
  by_cases hbusy : d.pl.busy (k1, k2, k3) = 0
  · have bz : (d.pl.busy (k1, k2, k3) != 0) = false := by simpa using hbusy
    have Hbusy := Lib.hid hbusy
    clear hbusy
    repeat go_big_quiet_step (fail)
    refine wpQuiet_nil ?_
    go_wp2_with fail
    clear hlk bz
    refine wp_region_readsQ 5 (by kernel_rfl) (by kernel_rfl) ?_
    intro we hwe
    simp only [List.take_succ_cons, List.take_zero, List.drop_succ_cons, List.drop_zero]
    have hcd : Chg [] wd we := by rw [hwe]; exact (Chg.refl _ _).drew
    have q3e := (hcd.cell (lt_of_cell q3d) (by simp)).trans q3d
    have e0e := (hcd.cell (lt_of_cell e0d) (by simp)).trans e0d
    have e1e := (hcd.cell (lt_of_cell e1d) (by simp)).trans e1d
    have e2e := (hcd.cell (lt_of_cell e2d) (by simp)).trans e2d
    obtain ⟨o, hupd, hmap⟩ := (Hd.out.new hcd).mem.act.update Inp.qkeyed Inp.qk_inj Try.underlying86 (Inp.qkOk Hkey.out) (.int .i64 1)
    have hm1 := (Hd.out.new hcd).mem.setAct (L := ups d.act (k1, k2, k3) 1) (by rw [← ups_amap]; exact hmap)
    have hcb : ChgP (fun g => g = d.ba) we (setBlock we d.ba o) := (ChgP.refl (fun g => g = d.ba) we).setBlock (Or.inl rfl) o
    have hbam : d.ba ∈ d.muts b := by simp [Dm.muts]
    have hn1 : NextK (k1, k2, k3) b w (setBlock we d.ba o) d { d with act := ups d.act (k1, k2, k3) 1 } :=
      ⟨hm1, ((Hcd.out.trans hcd).p (S := fun g => g ∈ d.muts b)).comp hcb (fun g hg => Or.inl (hg ▸ hbam)), fun g hg => Or.inl hg, fun g hg => Or.inl hg, rfl, rfl, rfl, rfl, rfl, rfl, rfl, fun k v hne hk => ⟨by show aget (ups d.act _ _) k = _; rw [aget_ups, if_neg (Ne.symm hne)]; exact hk, rfl⟩⟩
    have hk1 := (hcb.block _ (Nat.lt_of_lt_of_le (lt_of_obj Hkd.out) hcd.size) (fun e => Hkn.out (e ▸ hbam))).trans ((hcd.block _ (lt_of_obj Hkd.out) (by simp)).trans Hkd.out)
    have Hn1 := Lib.hid hn1
    have Hk1 := Lib.hid hk1
    unfold Inp.qk at hupd
    clear hwe hcd hmap hm1 hcb hbam hn1 hk1 q3d e0d e1d e2d
    repeat go_big_quiet_step (fail)
    refine wpQuiet_nil ?_
    go_wp2_with fail
    obtain ⟨w1, hw1⟩ : ∃ x, x = setBlock we d.ba o := ⟨_, rfl⟩
    rw [← hw1] at Hn1 Hk1 ⊢
    clear hw1 hupd q3e e0e e1e e2e
    have q2 : w1.cell? ⟨b, 2, none⟩ = some (.map (some d.br)) := cell_of_heap Hn1.out.mem.blk rfl
    have e0 : w1.cell? ⟨w.heap.size, 0, none⟩ = some (.int .i64 k1) := cell_of_heap Hk1.out rfl
    have e1 : w1.cell? ⟨w.heap.size, 1, none⟩ = some (.int .i64 k2) := cell_of_heap Hk1.out rfl
    have e2 : w1.cell? ⟨w.heap.size, 2, none⟩ = some (.int .i64 k3) := cell_of_heap Hk1.out rfl
    refine wp_region_readsQ 6 (by kernel_rfl) (by kernel_rfl) ?_
    intro w2 hw2
    simp only [List.take_succ_cons, List.take_zero, List.drop_succ_cons, List.drop_zero]
    have hcd : Chg [] w1 w2 := by rw [hw2]; exact (Chg.refl _ _).drew
    have q2d := (hcd.cell (lt_of_cell q2) (by simp)).trans q2
    have e0d := (hcd.cell (lt_of_cell e0) (by simp)).trans e0
    have e1d := (hcd.cell (lt_of_cell e1) (by simp)).trans e1
    have e2d := (hcd.cell (lt_of_cell e2) (by simp)).trans e2
    have hn2 : NextK (k1, k2, k3) b w w2 d { d with act := ups d.act (k1, k2, k3) 1 } := Hn1.out.trans ((Next.new Hn1.out.mem hcd).toK _)
    have hlk := hn2.mem.res.lookup Inp.qkeyed Inp.qk_inj Try.underlying85 (Inp.qkOk Hkey.out) (ptr_zero w2) false
    rw [aget_amap] at hlk
    simp only [Bool.false_eq_true, if_false] at hlk
    unfold Inp.qk at hlk
    have Hn2 := Lib.hid hn2
    have Hk2 := Lib.hid ((hcd.block _ (lt_of_obj Hk1.out) (by simp)).trans Hk1.out)
    clear hw2 hcd q2 e0 e1 e2 hn2
    have He2 := Lib.hid (H.out.nextK Hn2.out)
    have Hb1 := Lib.hid (show aget (ups d.act (k1, k2, k3) 1) (k1, k2, k3) = some 1 by rw [aget_ups, if_pos rfl])
    cases hold : aget d.es (k1, k2, k3) with
    | none =>
      rw [hold] at hlk
      simp only [Option.map_none, Option.getD_none] at hlk
      have Hf0 := Lib.hid (updP_none (U := U) (C := C) (stp := stp) Hbusy.out (show aget d.pl.es (k1, k2, k3) = none by rw [Dm.aget_pl, hold]; rfl))
      clear hold
      have Hcall := Lib.hid (Hre.out Hbusy.out w2 _ 1 He2.out Hc.out Hs.out Hb1.out (Hks1.out Hbusy.out))
      unfold i3v at Hcall
      repeat go_big_quiet_step (fail)
      refine wpQuiet_nil ?_
      go_wp2_with fail
      refine Hcall.out.mono ?_
      rintro e wx hp
      rcases hu : recompP U C stp (begP d.pl (k1, k2, k3)) (k1, k2, k3) with ⟨x | y, sx⟩
      · obtain ⟨dx, rfl, hn, rfl⟩ := hp.err hu
        have Hf := Lib.hid (Hf0.out.trans (by rw [hu]; rfl) : updP U C stp d.pl (k1, k2, k3) = (.error x, dx.pl))
        have Hn := Lib.hid ((Hn2.out.trans hn.toK).toNext (Hact.out Hbusy.out))
        clear hu hp hn hlk q2d e0d e1d e2d
        go_wp2
        exact ⟨rfl, UPost.mkErr (U := updP U C stp) Hf.out Hn.out rfl⟩
      · obtain ⟨dx, r, rfl, hn, rfl, hr⟩ := hp.ok hu
        have Hf := Lib.hid (Hf0.out.trans (by rw [hu]; rfl) : updP U C stp d.pl (k1, k2, k3) = (.ok (), finP dx.pl (k1, k2, k3)))
        have Hn := Lib.hid (Hn2.out.trans hn.toK)
        have Hr := Lib.hid hr
        have Hkx := Lib.hid (And.intro ((hn.chg.block _ (lt_of_obj Hk2.out) Hkn.out).trans Hk2.out) (show w.heap.size ∉ dx.muts b from fun hm => (hn.muts _ hm).elim Hkn.out fun hs => by have := lt_of_obj Hk2.out; omega))
        clear hu hp hn hr hlk q2d e0d e1d e2d
        unfold Rs.val
        have hrs := Hn.out.mem.rs Hr.out
        have q1 : wx.cell? ⟨b, 1, none⟩ = some (.pointer (some ⟨dx.bs, 0, none⟩)) := cell_of_heap Hn.out.mem.blk rfl
        have q6 : wx.cell? ⟨b, 6, none⟩ = some (.int .i64 dx.clk) := cell_of_heap Hn.out.mem.blk rfl
        have f6 := frozen_of_heap Hn.out.mem.blk (i := 6)
        have r2 : wx.cell? ⟨r.blk, 2, none⟩ = some (.int .i64 r.ver) := cell_of_heap hrs.blk rfl
        have fr2 := frozen_of_heap hrs.blk (i := 2)
        have r6 : wx.cell? ⟨r.blk, 6, none⟩ = some (.int .i64 r.use) := cell_of_heap hrs.blk rfl
        have fr6 := frozen_of_heap hrs.blk (i := 6)
        have hne : r.blk ≠ b := ((Dm.parts Hn.out.mem.nodup).2.2.2.2.2.2.2.2.2.2.1 _ (aget_mem Hr.out)).1
        have hne' : b ≠ r.blk := Ne.symm hne
        clear hrs
        go_wp2_with fail
        refine (revision_q _ _ _ _ Hn.out.mem.store).mono ?_
        rintro e wy ⟨rfl, rfl⟩
        go_wp2_with fail
        have hcx : ChgP (fun g => g = r.blk ∨ g = b) wy (((wy.setCell ⟨r.blk, 2, none⟩ (.int .i64 dx.S.rev)).setCell ⟨b, 6, none⟩ (.int .i64 (wrap64 (dx.clk + 1)))).setCell ⟨r.blk, 6, none⟩ (.int .i64 (wrap64 (dx.clk + 1)))) :=
          (((ChgP.refl (fun g => g = r.blk ∨ g = b) wy).setCell (p := ⟨r.blk, 2, none⟩) (Or.inl (Or.inl rfl)) _).setCell (p := ⟨b, 6, none⟩) (Or.inl (Or.inr rfl)) _).setCell (p := ⟨r.blk, 6, none⟩) (Or.inl (Or.inl rfl)) _
        obtain ⟨wz, hwz⟩ : ∃ x, x = (((wy.setCell ⟨r.blk, 2, none⟩ (.int .i64 dx.S.rev)).setCell ⟨b, 6, none⟩ (.int .i64 (wrap64 (dx.clk + 1)))).setCell ⟨r.blk, 6, none⟩ (.int .i64 (wrap64 (dx.clk + 1)))) := ⟨_, rfl⟩
        rw [← hwz] at hcx ⊢
        have hbm : b ∈ dx.muts b := by simp [Dm.muts]
        have hkn : w.heap.size ∉ dx.muts b := Hkx.out.2
        have hzb : wz.heap[b]? = some (.cells #[dx.comp, .pointer (some ⟨dx.bs, 0, none⟩), .map (some dx.br), .map (some dx.ba), dx.stop, .int .i64 dx.cnt, .int .i64 (wrap64 (dx.clk + 1))] 88 (0, 0)) := by
          rw [hwz]
          exact (heap_setCell_ne _ _ _ _ hne').trans ((heap_setCell_same ((heap_setCell_ne _ _ _ _ hne').trans Hn.out.mem.blk) _).trans rfl)
        have hzk := (hcx.block _ (lt_of_obj Hkx.out.1) (fun e => e.elim (fun e => hkn (e ▸ Dm.mut_mem (aget_mem Hr.out))) fun e => hkn (e ▸ hbm))).trans Hkx.out.1
        have z3 : wz.cell? ⟨b, 3, none⟩ = some (.map (some dx.ba)) := cell_of_heap hzb rfl
        have y0 : wz.cell? ⟨w.heap.size, 0, none⟩ = some (.int .i64 k1) := cell_of_heap hzk rfl
        have y1 : wz.cell? ⟨w.heap.size, 1, none⟩ = some (.int .i64 k2) := cell_of_heap hzk rfl
        have y2 : wz.cell? ⟨w.heap.size, 2, none⟩ = some (.int .i64 k3) := cell_of_heap hzk rfl
        have hbr : dx.ba ≠ r.blk := Ne.symm ((Dm.parts Hn.out.mem.nodup).2.2.2.2.2.2.2.2.2.2.1 _ (aget_mem Hr.out)).2.2.2.2
        have hbb : dx.ba ≠ b := Ne.symm (Dm.parts Hn.out.mem.nodup).2.2.2.1
        have Hma := Lib.hid (Hn.out.mem.act.of_block (hcx.block _ Hn.out.mem.act.lt (fun e => e.elim hbr hbb)))
        have Hwz := Lib.hid hwz
        clear hwz hcx hbm hzb hzk hkn hbr hbb q1 q6 f6 r2 fr2 r6 fr6 hne hne'
        refine wp_region_readsQ 5 (by kernel_rfl) (by kernel_rfl) ?_
        intro we hwe
        simp only [List.take_succ_cons, List.take_zero, List.drop_succ_cons, List.drop_zero]
        have hcd : Chg [] wz we := by rw [hwe]; exact (Chg.refl _ _).drew
        have z3d := (hcd.cell (lt_of_cell z3) (by simp)).trans z3
        have y0d := (hcd.cell (lt_of_cell y0) (by simp)).trans y0
        have y1d := (hcd.cell (lt_of_cell y1) (by simp)).trans y1
        have y2d := (hcd.cell (lt_of_cell y2) (by simp)).trans y2
        obtain ⟨o, hdel, hmap⟩ := (Hma.out.kept hcd (by simp)).delete Inp.qkeyed Inp.qk_inj Try.underlying86 (Inp.qkOk Hkey.out) 0
        unfold Inp.qk at hdel
        have Hwe := Lib.hid (show ∀ g : Nat, we.heap[g]? = wz.heap[g]? from fun g => by rw [hwe]; rfl)
        have Hcd := Lib.hid hcd
        have Hmap := Lib.hid hmap
        clear hwe hcd z3 y0 y1 y2 hmap
        repeat go_big_quiet_step (fail)
        refine wpQuiet_nil ?_
        go_wp2_with fail
        go_ret
        have hcd' := Hcd.out
        have hwe' := Hwe.out
        rw [Hwz.out] at hcd' hwe'
        exact upd_end Hn.out (Hact.out Hbusy.out) Hr.out Hf.out hwe' hcd' (fun _ => Hmap.out)
    | some ro =>
      rw [hold] at hlk
      simp only [Option.map_some, Option.getD_some] at hlk
      unfold Rs.val at hlk
      have Hold := Lib.hid hold
      have hpo : aget d.pl.es (k1, k2, k3) = some ro.pl := by rw [Dm.aget_pl, hold]; rfl
      have Hpo := Lib.hid hpo
      have Hval := Lib.hid (valid_any fam w2 _ (k1, k2, k3) 1 ro He2.out Hc.out Hs.out Hold.out Hb1.out (Hdeps.out ro hold).1 (Hdeps.out ro hold).2)
      clear hold hpo
      repeat go_big_quiet_step (fail)
      refine wpQuiet_nil ?_
      unfold Rs.val at Hval
      clear hlk q2d e0d e1d e2d
      go_wp2_with fail
      refine Hval.out.mono ?_
      rintro e w3 hp
      rcases hu : validP U (begP d.pl (k1, k2, k3)) ro.pl with ⟨x | t, s3⟩
      · obtain ⟨d3, rfl, hn, rfl⟩ := hp.err hu
        have Hf := Lib.hid (updP_err (U := U) (C := C) (stp := stp) Hbusy.out Hpo.out hu)
        have Hn := Lib.hid ((Hn2.out.trans (hn.toK _)).toNext (Hact.out Hbusy.out))
        clear hu hp hn
        go_wp2
        exact ⟨rfl, UPost.mkErr (U := updP U C stp) Hf.out Hn.out rfl⟩
      · obtain ⟨d3, rfl, hn, rfl⟩ := hp.ok hu
        have Hn3 := Lib.hid (Hn2.out.trans (hn.toK (k1, k2, k3)))
        have Hk3 := Lib.hid (And.intro ((hn.other (lt_of_obj Hk2.out) Hkn.out).1.trans Hk2.out) (hn.other (lt_of_obj Hk2.out) Hkn.out).2.1)
        have Hby := Lib.hid (hn.busy (k1, k2, k3) 1 Hb1.out)
        cases t
        · have Hf0 := Lib.hid (updP_no (U := U) (C := C) (stp := stp) Hbusy.out Hpo.out hu)
          have Hks3 := Lib.hid (Hks2.out ro _ Hold.out hu)
          clear hu hp hn
          have hcall := Hre.out Hbusy.out w3 d3 1 (H.out.nextK Hn3.out) (Hn3.out.comp.trans Hc.out) (Hn3.out.stop.trans Hs.out) Hby.out.1 Hks3.out
          have Hcall := Lib.hid hcall
          clear hcall
          unfold i3v at Hcall
          have e0 : w3.cell? ⟨w.heap.size, 0, none⟩ = some (.int .i64 k1) := cell_of_heap Hk3.out.1 rfl
          have e1 : w3.cell? ⟨w.heap.size, 1, none⟩ = some (.int .i64 k2) := cell_of_heap Hk3.out.1 rfl
          have e2 : w3.cell? ⟨w.heap.size, 2, none⟩ = some (.int .i64 k3) := cell_of_heap Hk3.out.1 rfl
          go_wp2_with fail
          refine Hcall.out.mono ?_
          rintro e wx hp
          rcases hu : recompP U C stp d3.pl (k1, k2, k3) with ⟨x | y, sx⟩
          · obtain ⟨dx, rfl, hn, rfl⟩ := hp.err hu
            have Hf := Lib.hid (Hf0.out.trans (by rw [hu]; rfl) : updP U C stp d.pl (k1, k2, k3) = (.error x, dx.pl))
            have Hn := Lib.hid ((Hn3.out.trans hn.toK).toNext (Hact.out Hbusy.out))
            clear hu hp hn e0 e1 e2
            go_wp2
            exact ⟨rfl, UPost.mkErr (U := updP U C stp) Hf.out Hn.out rfl⟩
          · obtain ⟨dx, r, rfl, hn, rfl, hr⟩ := hp.ok hu
            have Hf := Lib.hid (Hf0.out.trans (by rw [hu]; rfl) : updP U C stp d.pl (k1, k2, k3) = (.ok (), finP dx.pl (k1, k2, k3)))
            have Hn := Lib.hid (Hn3.out.trans hn.toK)
            have Hr := Lib.hid hr
            have Hkx := Lib.hid (And.intro ((hn.chg.block _ (lt_of_obj Hk3.out.1) Hk3.out.2).trans Hk3.out.1) (show w.heap.size ∉ dx.muts b from fun hm => (hn.muts _ hm).elim Hk3.out.2 fun hs => by have := lt_of_obj Hk3.out.1; omega))
            clear hu hp hn hr e0 e1 e2
            unfold Rs.val
            have hrs := Hn.out.mem.rs Hr.out
            have q1 : wx.cell? ⟨b, 1, none⟩ = some (.pointer (some ⟨dx.bs, 0, none⟩)) := cell_of_heap Hn.out.mem.blk rfl
            have q6 : wx.cell? ⟨b, 6, none⟩ = some (.int .i64 dx.clk) := cell_of_heap Hn.out.mem.blk rfl
            have f6 := frozen_of_heap Hn.out.mem.blk (i := 6)
            have r2 : wx.cell? ⟨r.blk, 2, none⟩ = some (.int .i64 r.ver) := cell_of_heap hrs.blk rfl
            have fr2 := frozen_of_heap hrs.blk (i := 2)
            have r6 : wx.cell? ⟨r.blk, 6, none⟩ = some (.int .i64 r.use) := cell_of_heap hrs.blk rfl
            have fr6 := frozen_of_heap hrs.blk (i := 6)
            have hne : r.blk ≠ b := ((Dm.parts Hn.out.mem.nodup).2.2.2.2.2.2.2.2.2.2.1 _ (aget_mem Hr.out)).1
            have hne' : b ≠ r.blk := Ne.symm hne
            clear hrs
            go_wp2_with fail
            refine (revision_q _ _ _ _ Hn.out.mem.store).mono ?_
            rintro e wy ⟨rfl, rfl⟩
            go_wp2_with fail
            have hcx : ChgP (fun g => g = r.blk ∨ g = b) wy (((wy.setCell ⟨r.blk, 2, none⟩ (.int .i64 dx.S.rev)).setCell ⟨b, 6, none⟩ (.int .i64 (wrap64 (dx.clk + 1)))).setCell ⟨r.blk, 6, none⟩ (.int .i64 (wrap64 (dx.clk + 1)))) :=
              (((ChgP.refl (fun g => g = r.blk ∨ g = b) wy).setCell (p := ⟨r.blk, 2, none⟩) (Or.inl (Or.inl rfl)) _).setCell (p := ⟨b, 6, none⟩) (Or.inl (Or.inr rfl)) _).setCell (p := ⟨r.blk, 6, none⟩) (Or.inl (Or.inl rfl)) _
            obtain ⟨wz, hwz⟩ : ∃ x, x = (((wy.setCell ⟨r.blk, 2, none⟩ (.int .i64 dx.S.rev)).setCell ⟨b, 6, none⟩ (.int .i64 (wrap64 (dx.clk + 1)))).setCell ⟨r.blk, 6, none⟩ (.int .i64 (wrap64 (dx.clk + 1)))) := ⟨_, rfl⟩
            rw [← hwz] at hcx ⊢
            have hbm : b ∈ dx.muts b := by simp [Dm.muts]
            have hkn : w.heap.size ∉ dx.muts b := Hkx.out.2
            have hzb : wz.heap[b]? = some (.cells #[dx.comp, .pointer (some ⟨dx.bs, 0, none⟩), .map (some dx.br), .map (some dx.ba), dx.stop, .int .i64 dx.cnt, .int .i64 (wrap64 (dx.clk + 1))] 88 (0, 0)) := by
              rw [hwz]
              exact (heap_setCell_ne _ _ _ _ hne').trans ((heap_setCell_same ((heap_setCell_ne _ _ _ _ hne').trans Hn.out.mem.blk) _).trans rfl)
            have hzk := (hcx.block _ (lt_of_obj Hkx.out.1) (fun e => e.elim (fun e => hkn (e ▸ Dm.mut_mem (aget_mem Hr.out))) fun e => hkn (e ▸ hbm))).trans Hkx.out.1
            have z3 : wz.cell? ⟨b, 3, none⟩ = some (.map (some dx.ba)) := cell_of_heap hzb rfl
            have y0 : wz.cell? ⟨w.heap.size, 0, none⟩ = some (.int .i64 k1) := cell_of_heap hzk rfl
            have y1 : wz.cell? ⟨w.heap.size, 1, none⟩ = some (.int .i64 k2) := cell_of_heap hzk rfl
            have y2 : wz.cell? ⟨w.heap.size, 2, none⟩ = some (.int .i64 k3) := cell_of_heap hzk rfl
            have hbr : dx.ba ≠ r.blk := Ne.symm ((Dm.parts Hn.out.mem.nodup).2.2.2.2.2.2.2.2.2.2.1 _ (aget_mem Hr.out)).2.2.2.2
            have hbb : dx.ba ≠ b := Ne.symm (Dm.parts Hn.out.mem.nodup).2.2.2.1
            have Hma := Lib.hid (Hn.out.mem.act.of_block (hcx.block _ Hn.out.mem.act.lt (fun e => e.elim hbr hbb)))
            have Hwz := Lib.hid hwz
            clear hwz hcx hbm hzb hzk hkn hbr hbb q1 q6 f6 r2 fr2 r6 fr6 hne hne'
            refine wp_region_readsQ 5 (by kernel_rfl) (by kernel_rfl) ?_
            intro we hwe
            simp only [List.take_succ_cons, List.take_zero, List.drop_succ_cons, List.drop_zero]
            have hcd : Chg [] wz we := by rw [hwe]; exact (Chg.refl _ _).drew
            have z3d := (hcd.cell (lt_of_cell z3) (by simp)).trans z3
            have y0d := (hcd.cell (lt_of_cell y0) (by simp)).trans y0
            have y1d := (hcd.cell (lt_of_cell y1) (by simp)).trans y1
            have y2d := (hcd.cell (lt_of_cell y2) (by simp)).trans y2
            obtain ⟨o, hdel, hmap⟩ := (Hma.out.kept hcd (by simp)).delete Inp.qkeyed Inp.qk_inj Try.underlying86 (Inp.qkOk Hkey.out) 0
            unfold Inp.qk at hdel
            have Hwe := Lib.hid (show ∀ g : Nat, we.heap[g]? = wz.heap[g]? from fun g => by rw [hwe]; rfl)
            have Hcd := Lib.hid hcd
            have Hmap := Lib.hid hmap
            clear hwe hcd z3 y0 y1 y2 hmap
            repeat go_big_quiet_step (fail)
            refine wpQuiet_nil ?_
            go_wp2_with fail
            go_ret
            have hcd' := Hcd.out
            have hwe' := Hwe.out
            rw [Hwz.out] at hcd' hwe'
            exact upd_end Hn.out (Hact.out Hbusy.out) Hr.out Hf.out hwe' hcd' (fun _ => Hmap.out)
        · obtain ⟨dx, hdx⟩ : ∃ x, x = d3 := ⟨_, rfl⟩
          obtain ⟨wx, hwx⟩ : ∃ x, x = w3 := ⟨_, rfl⟩
          obtain ⟨r, hro⟩ : ∃ x, x = ro := ⟨_, rfl⟩
          rw [← hdx] at hu Hn3 Hk3 Hby
          rw [← hwx] at Hn3 Hk3 ⊢
          rw [← hro] at Hold
          have Hf := Lib.hid (updP_yes (U := U) (C := C) (stp := stp) Hbusy.out Hpo.out hu)
          rw [← hro]
          have Hn := Lib.hid Hn3.out
          have Hr := Lib.hid (Hby.out.2.trans Hold.out)
          have Hkx := Lib.hid Hk3.out
          clear hu hp hn hro hwx hdx
          have hrs := Hn.out.mem.rs Hr.out
          have q1 : wx.cell? ⟨b, 1, none⟩ = some (.pointer (some ⟨dx.bs, 0, none⟩)) := cell_of_heap Hn.out.mem.blk rfl
          have q6 : wx.cell? ⟨b, 6, none⟩ = some (.int .i64 dx.clk) := cell_of_heap Hn.out.mem.blk rfl
          have f6 := frozen_of_heap Hn.out.mem.blk (i := 6)
          have r2 : wx.cell? ⟨r.blk, 2, none⟩ = some (.int .i64 r.ver) := cell_of_heap hrs.blk rfl
          have fr2 := frozen_of_heap hrs.blk (i := 2)
          have r6 : wx.cell? ⟨r.blk, 6, none⟩ = some (.int .i64 r.use) := cell_of_heap hrs.blk rfl
          have fr6 := frozen_of_heap hrs.blk (i := 6)
          have hne : r.blk ≠ b := ((Dm.parts Hn.out.mem.nodup).2.2.2.2.2.2.2.2.2.2.1 _ (aget_mem Hr.out)).1
          have hne' : b ≠ r.blk := Ne.symm hne
          clear hrs
          go_wp2_with fail
          refine (revision_q _ _ _ _ Hn.out.mem.store).mono ?_
          rintro e wy ⟨rfl, rfl⟩
          go_wp2_with fail
          have hcx : ChgP (fun g => g = r.blk ∨ g = b) wy (((wy.setCell ⟨r.blk, 2, none⟩ (.int .i64 dx.S.rev)).setCell ⟨b, 6, none⟩ (.int .i64 (wrap64 (dx.clk + 1)))).setCell ⟨r.blk, 6, none⟩ (.int .i64 (wrap64 (dx.clk + 1)))) :=
            (((ChgP.refl (fun g => g = r.blk ∨ g = b) wy).setCell (p := ⟨r.blk, 2, none⟩) (Or.inl (Or.inl rfl)) _).setCell (p := ⟨b, 6, none⟩) (Or.inl (Or.inr rfl)) _).setCell (p := ⟨r.blk, 6, none⟩) (Or.inl (Or.inl rfl)) _
          obtain ⟨wz, hwz⟩ : ∃ x, x = (((wy.setCell ⟨r.blk, 2, none⟩ (.int .i64 dx.S.rev)).setCell ⟨b, 6, none⟩ (.int .i64 (wrap64 (dx.clk + 1)))).setCell ⟨r.blk, 6, none⟩ (.int .i64 (wrap64 (dx.clk + 1)))) := ⟨_, rfl⟩
          rw [← hwz] at hcx ⊢
          have hbm : b ∈ dx.muts b := by simp [Dm.muts]
          have hkn : w.heap.size ∉ dx.muts b := Hkx.out.2
          have hzb : wz.heap[b]? = some (.cells #[dx.comp, .pointer (some ⟨dx.bs, 0, none⟩), .map (some dx.br), .map (some dx.ba), dx.stop, .int .i64 dx.cnt, .int .i64 (wrap64 (dx.clk + 1))] 88 (0, 0)) := by
            rw [hwz]
            exact (heap_setCell_ne _ _ _ _ hne').trans ((heap_setCell_same ((heap_setCell_ne _ _ _ _ hne').trans Hn.out.mem.blk) _).trans rfl)
          have hzk := (hcx.block _ (lt_of_obj Hkx.out.1) (fun e => e.elim (fun e => hkn (e ▸ Dm.mut_mem (aget_mem Hr.out))) fun e => hkn (e ▸ hbm))).trans Hkx.out.1
          have z3 : wz.cell? ⟨b, 3, none⟩ = some (.map (some dx.ba)) := cell_of_heap hzb rfl
          have y0 : wz.cell? ⟨w.heap.size, 0, none⟩ = some (.int .i64 k1) := cell_of_heap hzk rfl
          have y1 : wz.cell? ⟨w.heap.size, 1, none⟩ = some (.int .i64 k2) := cell_of_heap hzk rfl
          have y2 : wz.cell? ⟨w.heap.size, 2, none⟩ = some (.int .i64 k3) := cell_of_heap hzk rfl
          have hbr : dx.ba ≠ r.blk := Ne.symm ((Dm.parts Hn.out.mem.nodup).2.2.2.2.2.2.2.2.2.2.1 _ (aget_mem Hr.out)).2.2.2.2
          have hbb : dx.ba ≠ b := Ne.symm (Dm.parts Hn.out.mem.nodup).2.2.2.1
          have Hma := Lib.hid (Hn.out.mem.act.of_block (hcx.block _ Hn.out.mem.act.lt (fun e => e.elim hbr hbb)))
          have Hwz := Lib.hid hwz
          clear hwz hcx hbm hzb hzk hkn hbr hbb q1 q6 f6 r2 fr2 r6 fr6 hne hne'
          refine wp_region_readsQ 5 (by kernel_rfl) (by kernel_rfl) ?_
          intro we hwe
          simp only [List.take_succ_cons, List.take_zero, List.drop_succ_cons, List.drop_zero]
          have hcd : Chg [] wz we := by rw [hwe]; exact (Chg.refl _ _).drew
          have z3d := (hcd.cell (lt_of_cell z3) (by simp)).trans z3
          have y0d := (hcd.cell (lt_of_cell y0) (by simp)).trans y0
          have y1d := (hcd.cell (lt_of_cell y1) (by simp)).trans y1
          have y2d := (hcd.cell (lt_of_cell y2) (by simp)).trans y2
          obtain ⟨o, hdel, hmap⟩ := (Hma.out.kept hcd (by simp)).delete Inp.qkeyed Inp.qk_inj Try.underlying86 (Inp.qkOk Hkey.out) 0
          unfold Inp.qk at hdel
          have Hwe := Lib.hid (show ∀ g : Nat, we.heap[g]? = wz.heap[g]? from fun g => by rw [hwe]; rfl)
          have Hcd := Lib.hid hcd
          have Hmap := Lib.hid hmap
          clear hwe hcd z3 y0 y1 y2 hmap
          repeat go_big_quiet_step (fail)
          refine wpQuiet_nil ?_
          go_wp2_with fail
          go_ret
          have hcd' := Hcd.out
          have hwe' := Hwe.out
          rw [Hwz.out] at hcd' hwe'
          exact upd_end Hn.out (Hact.out Hbusy.out) Hr.out Hf.out hwe' hcd' (fun _ => Hmap.out)
  · have bz : (d.pl.busy (k1, k2, k3) != 0) = true := by simpa using hbusy
    have Hf := Lib.hid (updP_busy (U := U) (C := C) (stp := stp) hbusy)
    clear hbusy
    repeat go_big_quiet_step (fail)
    refine wpQuiet_nil ?_
    go_wp2
    exact ⟨rfl, UPost.mkErr (U := updP U C stp) (x := 8) Hf.out (Next.new H.out.mem Hcd.out) rfl⟩
theorem update_any (fam : UFam w0 RO b comp stop K U chI) (key : QK) (hkey : Inp.QKok key)
    (hre : ∀ w d v, Env w0 RO b w d → d.comp = comp → d.stop = stop → aget d.act key = some v → (∀ k, Kk k → Inp.QKok k ∧ (k.1 ≠ 0 → K d.pl k)) → Calls Try.prog 90 #[.pointer (some ⟨b, 0, none⟩), i3v key] w (RPost (recompP U C stp) chI b key w d))
    (w : World) (d : Dm) (h : Env w0 RO b w d) (hc : d.comp = comp) (hs : d.stop = stop) (hact : d.pl.busy key = 0 → aget d.act key = none)
    (hks1 : ∀ k, Kk k → Inp.QKok k ∧ (k.1 ≠ 0 → K (begP d.pl key) k)) (hdeps : ∀ r, aget d.es key = some r → (0 ≤ r.dur ∧ r.dur < 3) ∧ ∀ k ∈ r.deps, Inp.QKok k ∧ (k.1 ≠ 0 → K (begP d.pl key) k))
    (hks2 : ∀ r s2, aget d.es key = some r → validP U (begP d.pl key) r.pl = (.ok false, s2) → ∀ k, Kk k → Inp.QKok k ∧ (k.1 ≠ 0 → K s2 k)) :
    Calls Try.prog 68 #[.pointer (some ⟨b, 0, none⟩), i3v key] w (UPost (updP U C stp) chI b key w d) :=
  update_anyB fam key hkey w d h hc hs hact (fun _ => hre) (fun _ => hks1) hdeps hks2
end
end Go.Proofs.Ytdeodcomlakpaaa
