/- Forget. -/
import Derived.Test.YtdeodcomlakpaaaGh
import Derived.Test.YtdeodcomlakpaaaGi
/- Forget. -/
namespace Go.Proofs.Ytdeodcomlakpaaa
open Go.RowKit Go.ChangeMaps Go.MapKept
set_option linter.unusedVariables false
set_option linter.unusedSimpArgs false
/-- a result less -/
theorem DmAt.drop {w : World} {b : Nat} {d : Dm} {o : Obj} {key : QK} (h : DmAt w b d) (hm : MapAt Try.prog 27 Inp.qk (setBlock w d.br o) d.br (adel (amap Rs.val d.es) key)) : DmAt (setBlock w d.br o) b { d with es := adel d.es key } := by
  obtain ⟨p1, p2, p3, p4, p5, p6, p7, p8, p9, p10, p11, p12⟩ := Dm.parts h.nodup
  have hc : ChgP (fun g => g = d.br) w (setBlock w d.br o) := (ChgP.refl (fun g => g = d.br) w).setBlock (Or.inl rfl) o
  have hbr : d.br ∈ d.muts b := by simp [Dm.muts]
  have himm : ∀ g ∈ d.imms, (setBlock w d.br o).heap[g]? = w.heap[g]? := fun g hg => hc.block g (h.bound g hg) fun e => h.apart g hg (e ▸ hbr)
  have blk : ∀ g, g < w.heap.size → g ≠ d.br → (setBlock w d.br o).heap[g]? = w.heap[g]? := fun g hg hn => hc.block g hg hn
  have hsub : ∀ p ∈ adel d.es key, p ∈ d.es := fun p hp => (mem_adel hp).1
  have hm1 : ∀ g ∈ ({ d with es := adel d.es key } : Dm).muts b, g ∈ d.muts b := fun g hg => by
    unfold Dm.muts at hg ⊢
    simp only [List.mem_cons] at hg ⊢
    rcases hg with h | h | h | h | h | h
    · exact Or.inl h
    · exact Or.inr (Or.inl h)
    · exact Or.inr (Or.inr (Or.inl h))
    · exact Or.inr (Or.inr (Or.inr (Or.inl h)))
    · exact Or.inr (Or.inr (Or.inr (Or.inr (Or.inl h))))
    · obtain ⟨p, hp, e⟩ := List.mem_map.1 h
      exact Or.inr (Or.inr (Or.inr (Or.inr (Or.inr (List.mem_map.2 ⟨p, hsub p hp, e⟩)))))
  have hm2 : ∀ g ∈ ({ d with es := adel d.es key } : Dm).imms, g ∈ d.imms := fun g hg => by
    rcases List.mem_append.1 hg with hg | hg
    · exact List.mem_append_left _ hg
    · obtain ⟨p, hp, hg⟩ := List.mem_flatMap.1 hg
      exact Dm.imm_mem (hsub p hp) hg
  have hnd : (({ d with es := adel d.es key } : Dm).muts b).Nodup := by
    have hs : (({ d with es := adel d.es key } : Dm).muts b).Sublist (d.muts b) := by
      unfold Dm.muts
      exact ((((((List.filter_sublist (l := d.es)).map _).cons_cons _).cons_cons _).cons_cons _).cons_cons _).cons_cons _
    exact hs.nodup h.nodup
  exact ⟨(blk _ (lt_of_obj h.blk) p3).trans h.blk, ⟨(blk _ (lt_of_obj h.store.blk) p6).trans h.store.blk, h.store.map.of_block (blk _ h.store.map.lt p8), fun p hp => ⟨intsKept' (h.store.vals p hp).1 fun g hg => himm g (Dm.imm_store (d := d) hp hg), (h.store.vals p hp).2⟩⟩, h.text, by rw [adel_amap] at hm; exact hm, h.act.of_block (blk _ h.act.lt (Ne.symm p10)), fun p hp => (h.each p (hsub p hp)).kept (blk _ (h.lt _ (Dm.mut_mem (b := b) (hsub p hp))) (p11 p (hsub p hp)).2.2.2.1) fun g hg => himm g (Dm.imm_mem (d := d) (hsub p hp) hg), hnd, fun g hg hgm => h.apart g (hm2 g hg) (hm1 g hgm), fun g hg => Nat.lt_of_lt_of_le (h.bound g (hm2 g hg)) hc.size⟩
/-- the plain Forget -/
def forgetP (s : PS) (k : QK) : PS := { s with es := adel s.es k }
set_option maxRecDepth 100000 in
set_option maxHeartbeats 4000000 in
theorem forget_any (w : World) (b : Nat) (d : Dm) (key : QK) (h : DmAt w b d) (hk : Inp.QKok key) (hst : d.stop = .nilFunc) :
    Calls Try.prog 71 #[.pointer (some ⟨b, 0, none⟩), i3v key] w fun e w' => e = .returned (.bool (aget d.es key).isSome) ∧ ∃ d', After b w w' d d' ∧ d'.pl = forgetP d.pl key := by
  obtain ⟨k1, k2, k3⟩ := key
  obtain ⟨wa, hwa⟩ : ∃ x, x = w.alloc (.cells #[.int .i64 k1, .int .i64 k2, .int .i64 k3] 27) := ⟨_, rfl⟩
  have hca : Chg [] w wa := by rw [hwa]; exact (Chg.refl [] w).alloc _
  have hkb : wa.heap[w.heap.size]? = some (.cells #[.int .i64 k1, .int .i64 k2, .int .i64 k3] 27 (0, 0)) := by rw [hwa]; exact heap_at _ _ _ rfl
  have Ha := Lib.hid (h.new hca)
  have H := Lib.hid h
  have Hkey := Lib.hid hk
  have Hst := Lib.hid hst
  have q2 : wa.cell? ⟨b, 2, none⟩ = some (.map (some d.br)) := cell_of_heap Ha.out.blk rfl
  have e0 : wa.cell? ⟨w.heap.size, 0, none⟩ = some (.int .i64 k1) := cell_of_heap hkb rfl
  have e1 : wa.cell? ⟨w.heap.size, 1, none⟩ = some (.int .i64 k2) := cell_of_heap hkb rfl
  have e2 : wa.cell? ⟨w.heap.size, 2, none⟩ = some (.int .i64 k3) := cell_of_heap hkb rfl
  have Hca := Lib.hid hca
  have Hkb := Lib.hid hkb
  clear h hk hst hca hkb
  unfold i3v
  go_enter Try.func71, Try.ntmps71
  go_wp2_with fail
  rw [← hwa]
  clear hwa
  refine wp_region_readsQ 10 (by kernel_rfl) (by kernel_rfl) ?_
  intro wd hwd
  simp only [List.take_succ_cons, List.take_zero, List.drop_succ_cons, List.drop_zero]
  have hcd : Chg [] wa wd := by rw [hwd]; exact (Chg.refl _ _).drew
  have q2d := (hcd.cell (lt_of_cell q2) (by simp)).trans q2
  have e0d := (hcd.cell (lt_of_cell e0) (by simp)).trans e0
  have e1d := (hcd.cell (lt_of_cell e1) (by simp)).trans e1
  have e2d := (hcd.cell (lt_of_cell e2) (by simp)).trans e2
  have hlk := (Ha.out.new hcd).res.lookup Inp.qkeyed Inp.qk_inj Try.underlying85 (Inp.qkOk Hkey.out) (ptr_zero wd) true
  rw [aget_amap] at hlk
  simp only [if_true] at hlk
  unfold Inp.qk at hlk
  have Hd := Lib.hid (Ha.out.new hcd)
  have Hcd := Lib.hid (Hca.out.trans hcd)
  have his : ((aget d.es (k1, k2, k3)).map Rs.val).isSome = (aget d.es (k1, k2, k3)).isSome := by cases aget d.es (k1, k2, k3) <;> rfl
  have hv : ∃ x, ((aget d.es (k1, k2, k3)).map Rs.val).getD (.pointer none) = .pointer x := by
    cases aget d.es (k1, k2, k3) with
    | none => exact ⟨none, rfl⟩
    | some r => exact ⟨_, rfl⟩
  obtain ⟨x, hx⟩ := hv
  rw [hx, his] at hlk
  clear hwd hcd q2 e0 e1 e2 his hx
  repeat go_big_quiet_step (fail)
  refine wpQuiet_nil ?_
  go_wp2_with fail
  clear hlk
  refine wp_region_readsQ 5 (by kernel_rfl) (by kernel_rfl) ?_
  intro we hwe
  simp only [List.take_succ_cons, List.take_zero, List.drop_succ_cons, List.drop_zero]
  have hcd : Chg [] wd we := by rw [hwe]; exact (Chg.refl _ _).drew
  have q2e := (hcd.cell (lt_of_cell q2d) (by simp)).trans q2d
  have e0e := (hcd.cell (lt_of_cell e0d) (by simp)).trans e0d
  have e1e := (hcd.cell (lt_of_cell e1d) (by simp)).trans e1d
  have e2e := (hcd.cell (lt_of_cell e2d) (by simp)).trans e2d
  obtain ⟨o, hdel, hmap⟩ := (Hd.out.new hcd).res.delete Inp.qkeyed Inp.qk_inj Try.underlying85 (Inp.qkOk Hkey.out) 0
  unfold Inp.qk at hdel
  have hfin : ∃ d', After b w (setBlock we d.br o) d d' ∧ d'.pl = forgetP d.pl (k1, k2, k3) := by
    have hbr : d.br ∈ d.muts b := by simp [Dm.muts]
    have hm1 := (Hd.out.new hcd).drop hmap
    refine ⟨_, ⟨hm1, (((Hcd.out.trans hcd).p (S := fun g => g ∈ d.muts b))).trans ((ChgP.refl (fun g => g ∈ d.muts b) we).setBlock (Or.inl hbr) o), fun g hg => Or.inl ?_, fun g hg => Or.inl ?_, rfl, Hst.out⟩, ?_⟩
    · unfold Dm.muts at hg ⊢
      simp only [List.mem_cons] at hg ⊢
      rcases hg with h | h | h | h | h | h
      · exact Or.inl h
      · exact Or.inr (Or.inl h)
      · exact Or.inr (Or.inr (Or.inl h))
      · exact Or.inr (Or.inr (Or.inr (Or.inl h)))
      · exact Or.inr (Or.inr (Or.inr (Or.inr (Or.inl h))))
      · obtain ⟨p, hp, e⟩ := List.mem_map.1 h
        exact Or.inr (Or.inr (Or.inr (Or.inr (Or.inr (List.mem_map.2 ⟨p, (mem_adel hp).1, e⟩)))))
    · rcases List.mem_append.1 hg with hg | hg
      · exact List.mem_append_left _ hg
      · obtain ⟨p, hp, hg⟩ := List.mem_flatMap.1 hg
        exact Dm.imm_mem (mem_adel hp).1 hg
    · unfold Dm.pl forgetP
      simp only
      rw [adel_amap]
  have Hfin := Lib.hid hfin
  clear hwe hcd hmap hfin q2d e0d e1d e2d
  repeat go_big_quiet_step (fail)
  refine wpQuiet_nil ?_
  go_wp2_with fail
  go_ret
  exact ⟨rfl, Hfin.out⟩
end Go.Proofs.Ytdeodcomlakpaaa
/- cancel.GetWithin. -/
namespace Go.Proofs.Ytdeodcomlakpaaa
open Go.RowKit Go.ChangeMaps Go.MapKept
set_option linter.unusedVariables false
set_option linter.unusedSimpArgs false
/-- the stop function of GetWithin -/
def within (start limit : Int) (s : PS) : Bool := decide (limit ≤ IntKind.i64.wrap (s.cnt - start))
theorem enterW (args : Array Value) (w : World) : (callFunc 99 args).run Try.prog w = .ok (.enter 99 args) w := by go_simp
set_option maxRecDepth 100000 in
set_option maxHeartbeats 2000000 in
theorem within_any (w : World) (b g3 g9 g5 : Nat) (d : Dm) (start limit : Int) (h : DmAt w b d) (h3 : w.heap[g3]? = some (.cells #[.pointer (some ⟨b, 0, none⟩)] 24 (0, 0))) (h9 : w.heap[g9]? = some (.cells #[.int .i64 start] 3 (0, 0))) (h5 : w.heap[g5]? = some (.cells #[.int .i64 limit] 3 (0, 0))) :
    Calls Try.prog 99 #[.pointer (some ⟨g3, 0, none⟩), .pointer (some ⟨g9, 0, none⟩), .pointer (some ⟨g5, 0, none⟩)] w fun e w' => e = .returned (.bool (within start limit d.pl)) ∧ Chg [] w w' := by
  have H := Lib.hid h
  have H3 := Lib.hid (And.intro h3 (And.intro h9 h5))
  clear h h3 h9 h5
  go_enter Try.func99, Try.ntmps99
  go_wp2_with fail
  refine wp_region_T (fun w' => w'.cell? ⟨g3, 0, none⟩ = some (.pointer (some ⟨b, 0, none⟩)) ∧ w'.cell? ⟨g9, 0, none⟩ = some (.int .i64 start) ∧ w'.cell? ⟨g5, 0, none⟩ = some (.int .i64 limit)) 6 (by kernel_rfl) ?_
  intro wd hwd
  have hcd : Chg [] w wd := by rw [hwd]; exact (Chg.refl _ _).drew
  have hS : wd.cell? ⟨g3, 0, none⟩ = some (.pointer (some ⟨b, 0, none⟩)) ∧ wd.cell? ⟨g9, 0, none⟩ = some (.int .i64 start) ∧ wd.cell? ⟨g5, 0, none⟩ = some (.int .i64 limit) :=
    ⟨cell_of_heap ((hcd.block _ (lt_of_obj H3.out.1) (by simp)).trans H3.out.1) rfl, cell_of_heap ((hcd.block _ (lt_of_obj H3.out.2.1) (by simp)).trans H3.out.2.1) rfl, cell_of_heap ((hcd.block _ (lt_of_obj H3.out.2.2) (by simp)).trans H3.out.2.2) rfl⟩
  have Hd := Lib.hid (H.out.new hcd)
  have Hcd := Lib.hid hcd
  clear hwd hcd
  refine anyT_take (i := 0) (v := .pointer (some ⟨b, 0, none⟩)) rfl (by kernel_rfl) (fun _ _ _ h => h) (Or.inl ⟨by rfl, fun w' hS => by go_simp⟩) hS ?_
  simp only [Act.put, List.setIfInBounds_toArray, List.set_cons_zero, List.set_cons_succ]
  refine anyT_take (i := 2) (v := .int .i64 start) rfl (by kernel_rfl) (fun _ _ _ h => h) (Or.inl ⟨by rfl, fun w' hS => by go_simp⟩) hS ?_
  simp only [Act.put, List.setIfInBounds_toArray, List.set_cons_zero, List.set_cons_succ]
  refine anyT_take (i := 4) (v := .int .i64 limit) rfl (by kernel_rfl) (fun _ _ _ h => h) (Or.inl ⟨by rfl, fun w' hS => by go_simp⟩) hS ?_
  simp only [Act.put, List.setIfInBounds_toArray, List.set_cons_zero, List.set_cons_succ]
  refine anyT_one (k := 1) (by kernel_rfl) rfl (fun K hK => ?_)
  go_simp
  refine (computations_any _ b d Hd.out).mono ?_
  rintro e w1 ⟨rfl, rfl⟩
  refine hK _ _ (fun _ => hS) ?_
  clear hK K
  refine anyT_one (k := 3) (by kernel_rfl) rfl (fun K hK => ?_)
  go_simp
  refine hK _ _ (fun _ => hS) ?_
  clear hK K
  refine anyT_one (k := 5) (by kernel_rfl) rfl (fun K hK => ?_)
  go_simp
  refine hK _ _ (fun _ => hS) ?_
  clear hK K
  refine anyT_one (k := 6) (by kernel_rfl) rfl (fun K hK => ?_)
  go_simp
  refine hK _ _ (fun h => by simp at h) ?_
  clear hK K
  refine anyT_done (by kernel_rfl) ?_
  go_wp2_with fail
  go_ret
  exact ⟨rfl, Hcd.out⟩
theorem I3ss.wider {p q : Nat → Prop} {w : World} {v : Value} {xs : List (List I3)} (h : I3ss p w v xs) (hp : ∀ g, p g → q g) : I3ss q w v xs :=
  SlR.imp h hp fun ad x _ hr => by
    obtain ⟨u, h1, h2⟩ := hr
    exact ⟨u, h1, SlR.imp h2 hp fun _ _ _ hr => hr⟩
/-- a database seen from a later world, with more blocks that nobody writes -/
theorem DbQ.rebase {p : Prg} {w0 : World} {RO : Nat → Prop} {b bv bq : Nat} {qv : Value} {w : World} {d : Dm} (h : DbQ p w0 RO b bv bq qv w d) (S : Nat → Prop) (hS : ∀ g, S g → g < w.heap.size ∧ g ∉ d.muts b) : DbQ p w (fun g => RO g ∨ S g) b bv bq qv w d :=
  ⟨⟨h.env.mem, fun g hg => hg.elim (fun h' => ⟨(h.env.ro g h').1, rfl, (h.env.ro g h').2.2⟩) fun h' => ⟨(hS g h').1, rfl, (hS g h').2⟩⟩,
    (by
      have hm := h.mem.same (w' := w) fun g hg => (h.env.ro g hg).2.1
      exact ⟨hm.valid, hm.queries, I3ss.wider hm.rows fun _ h => Or.inl h, Or.inl hm.rbv, Or.inl hm.rbq⟩), h.comp, h.stop, h.inv⟩
/-- GetUntil with a stop function that is no nil -/
theorem DbQ.until {p : Prg} (hp : PrgOk p) {w0 : World} {RO : Nat → Prop} {b bv bq : Nat} {qv : Value} {w : World} {d : Dm} (h : DbQ p w0 RO b bv bq qv w d) {stp : PS → Bool} (sf : Nat) (sfirst scaps : Array Value) (sfam : SFam w0 RO b sf sfirst scaps stp) (q : Nat) (hq : q < p.qs.length) :
    Calls Try.prog 34 #[.pointer (some ⟨b, 0, none⟩), i3v (1, (q : Int), 0), .func (.func sf) sfirst scaps] w fun e w' => GPost (upQ p stp) b (1, (q : Int), 0) w d e w' ∧ ∀ d', d'.pl = (upQ p stp d.pl (1, (q : Int), 0)).2.idle → After b w w' d d' → InvW p d'.pl := by
  have hfam := fam_all hp (stop := .func (.func sf) sfirst scaps) (b := b) h.mem (Or.inr ⟨sf, sfirst, scaps, rfl, sfam⟩) p.qs.length (Nat.le_refl _)
  refine (getUntil_any (U := upQ p stp) (.func (.func sf) sfirst scaps) (Or.inr ⟨sf, sfirst, scaps, rfl⟩) (1, (q : Int), 0) (by simp) w d h.env ?_).mono fun e w' hg => ⟨hg, fun d' hpl ha => ?_⟩
  · intro w' d' he hc hs hpl
    exact hfam.call w' d' _ he (hc.trans h.comp) hs ⟨qk_lt hq, by rw [hpl]; exact h.inv⟩
  · rw [hpl]; exact ((kept_upQ hp _ d.pl q hq h.inv).inv h.inv).idle
theorem DbQ.other {p : Prg} {w0 : World} {RO S : Nat → Prop} {b bv bq : Nat} {qv : Value} {w w' : World} {d : Dm} (h : DbQ p w0 RO b bv bq qv w d) (hc : ChgP S w w') (hm : ∀ g, S g → g ∉ d.muts b ∧ g ∉ d.imms ∧ ¬ RO g) : DbQ p w0 RO b bv bq qv w' d :=
  ⟨⟨h.env.mem.kept hc (fun g hg hs => (hm g hs).1 hg) (fun g hg hs => (hm g hs).2.1 hg), fun g hg => by
    obtain ⟨h1, h2, h3⟩ := h.env.ro g hg
    exact ⟨Nat.lt_of_lt_of_le h1 hc.size, (hc.block g h1 fun hs => (hm g hs).2.2 hg).trans h2, h3⟩⟩, h.mem, h.comp, h.stop, h.inv⟩
def errOf (x : Except Int Unit) : Int := match x with
  | .ok _ => 0
  | .error e => e
def WithinPost (p : Prg) (wb : World) (b : Nat) (q : Nat) (limit : Int) (w : World) (d : Dm) (e : Ending) (w' : World) : Prop :=
  ∃ d' v, DbF p wb b w' d' ∧ d'.pl = (upQ p (within d.cnt limit) d.pl (1, (q : Int), 0)).2.idle ∧ After b w w' d d' ∧ e = .returned (.tuple #[v, .int .i64 (IntKind.i64.wrap (d'.cnt - d.cnt)), .int .i64 (errOf (upQ p (within d.cnt limit) d.pl (1, (q : Int), 0)).1)])
set_option maxRecDepth 100000 in
set_option maxHeartbeats 8000000 in
theorem getWithin_any {p : Prg} (hp : PrgOk p) {wb : World} {b : Nat} {w : World} {d : Dm} (h : DbF p wb b w d) (q : Nat) (hq : q < p.qs.length) (limit : Int) :
    Calls Try.prog 77 #[.pointer (some ⟨b, 0, none⟩), i3v (1, (q : Int), 0), .int .i64 limit] w (WithinPost p wb b q limit w d) := by
  obtain ⟨w4, hw4⟩ : ∃ x, x = (((w.alloc (.cells #[.pointer (some ⟨b, 0, none⟩)] 24)).alloc (.cells #[.int .i64 1, .int .i64 (q : Int), .int .i64 0] 27)).alloc (.cells #[.int .i64 limit] 3)).alloc (.cells #[.slice none 0 0, .string ⟨#[]⟩] 31) := ⟨_, rfl⟩
  have hc4 : Chg [] w w4 := by rw [hw4]; exact ((((Chg.refl [] w).alloc _).alloc _).alloc _).alloc _
  have hz4 : w4.heap.size = w.heap.size + 4 := by rw [hw4]; simp
  have k3 : w4.heap[w.heap.size]? = some (.cells #[.pointer (some ⟨b, 0, none⟩)] 24 (0, 0)) := by
    rw [hw4]; exact (heap_past _ _ _ (by simp; omega)).trans ((heap_past _ _ _ (by simp; omega)).trans ((heap_past _ _ _ (by simp)).trans (heap_at _ _ _ rfl)))
  have k5 : w4.heap[w.heap.size + 1 + 1]? = some (.cells #[.int .i64 limit] 3 (0, 0)) := by
    rw [hw4]; exact (heap_past _ _ _ (by simp)).trans (heap_at _ _ _ (by simp))
  have k6 : w4.heap[w.heap.size + 1 + 1 + 1]? = some (.cells #[.slice none 0 0, .string ⟨#[]⟩] 31 (0, 0)) := by
    rw [hw4]; exact heap_at _ _ _ (by simp)
  have k4 : w4.heap[w.heap.size + 1]? = some (.cells #[.int .i64 1, .int .i64 (q : Int), .int .i64 0] 27 (0, 0)) := by
    rw [hw4]; exact (heap_past _ _ _ (by simp)).trans ((heap_past _ _ _ (by simp)).trans (heap_at _ _ _ (by simp)))
  have c3 : w4.cell? ⟨w.heap.size, 0, none⟩ = some (.pointer (some ⟨b, 0, none⟩)) := cell_of_heap k3 rfl
  have c40 : w4.cell? ⟨w.heap.size + 1, 0, none⟩ = some (.int .i64 1) := cell_of_heap k4 rfl
  have c41 : w4.cell? ⟨w.heap.size + 1, 1, none⟩ = some (.int .i64 (q : Int)) := cell_of_heap k4 rfl
  have c42 : w4.cell? ⟨w.heap.size + 1, 2, none⟩ = some (.int .i64 0) := cell_of_heap k4 rfl
  have h4 := h.new hc4
  have Hk := Lib.hid (And.intro k3 (And.intro k4 (And.intro k5 k6)))
  have H4 := Lib.hid h4
  have Hc4 := Lib.hid hc4
  have H := Lib.hid h
  clear k3 k4 k5 k6 h4 hc4 h
  unfold i3v
  go_enter Try.func77, Try.ntmps77
  go_wp2_with fail
  rw [← hw4]
  clear hw4
  have l0 : w.heap.size < w4.heap.size := by omega
  have l1 : w.heap.size + 1 < w4.heap.size := by omega
  have l2 : w.heap.size + 1 + 1 < w4.heap.size := by omega
  have hmf : ∀ (fn : Fn) (first cap : Array Value) (w : World), (Instr.makeFunc fn first cap).run Try.prog w = .ok (.func fn first cap) w := fun _ _ _ _ => rfl
  refine (computations_any _ b d H4.out.mem).mono ?_
  rintro e w' ⟨rfl, hww⟩
  rw [hww]
  clear hww
  have Hz4 := Lib.hid hz4
  clear hz4
  go_wp2_with fail
  obtain ⟨w5, hw5⟩ : ∃ x, x = w4.alloc (.cells #[.int .i64 d.cnt] 3) := ⟨_, rfl⟩
  have hc5 : Chg [] w4 w5 := by rw [hw5]; exact (Chg.refl [] w4).alloc _
  have k9 : w5.heap[w4.heap.size]? = some (.cells #[.int .i64 d.cnt] 3 (0, 0)) := by rw [hw5]; exact heap_at _ _ _ rfl
  have k3 := (hc5.block _ (lt_of_obj Hk.out.1) (by simp)).trans Hk.out.1
  have k5 := (hc5.block _ (lt_of_obj Hk.out.2.2.1) (by simp)).trans Hk.out.2.2.1
  have k6 := (hc5.block _ (lt_of_obj Hk.out.2.2.2) (by simp)).trans Hk.out.2.2.2
  have off : ∀ g, w.heap.size ≤ g → g ∉ d.muts b := fun g hg hm => by have := H.out.mem.lt g hm; omega
  have hz4 := Hz4.out
  have hF : ∃ w0 RO bv bq qv, (DbQ p w0 RO b bv bq qv w5 d ∧ ∀ g, RO g → g < w.heap.size) ∧ Chg [] wb w5 ∧ (∀ g ∈ d.muts b, wb.heap.size ≤ g) ∧ ∀ g, RO g → g < b := by
    obtain ⟨w0, RO, bv, bq, qv, g1, g2, g3⟩ := H.out
    exact ⟨w0, RO, bv, bq, qv, ⟨g1.new (Hc4.out.trans hc5), fun g hg => (g1.env.ro g hg).1⟩, g2.trans (Hc4.out.trans hc5), g3⟩
  obtain ⟨w0, RO, bv, bq, qv, ⟨hq0, hrol⟩, hcb, hfr⟩ := hF
  have Hrol := Lib.hid hrol
  clear hrol
  have hq1 := hq0.rebase (fun g => g = w.heap.size ∨ g = w4.heap.size ∨ g = w.heap.size + 1 + 1) (by
    rintro g (rfl | rfl | rfl)
    · exact ⟨lt_of_obj k3, off _ (Nat.le_refl _)⟩
    · exact ⟨lt_of_obj k9, off _ (by omega)⟩
    · exact ⟨lt_of_obj k5, off _ (by omega)⟩)
  have hsf : SFam w5 (fun g => RO g ∨ (g = w.heap.size ∨ g = w4.heap.size ∨ g = w.heap.size + 1 + 1)) b 99 #[] #[.pointer (some ⟨w.heap.size, 0, none⟩), .pointer (some ⟨w4.heap.size, 0, none⟩), .pointer (some ⟨w.heap.size + 1 + 1, 0, none⟩)] (within d.cnt limit) :=
    ⟨enterW, fun w' d' he => within_any w' b _ _ _ d' d.cnt limit he.mem ((he.ro _ (Or.inr (Or.inl rfl))).2.1.trans k3) ((he.ro _ (Or.inr (Or.inr (Or.inl rfl)))).2.1.trans k9) ((he.ro _ (Or.inr (Or.inr (Or.inr rfl)))).2.1.trans k5)⟩
  have Hcall := Lib.hid (hq1.until hp _ #[] _ hsf q hq)
  have Hq0 := Lib.hid (And.intro hq0 (And.intro hcb hfr))
  have Hc5 := Lib.hid (Hc4.out.trans hc5)
  have B3 := Lib.hid (show Box b w5 d _ _ from ⟨k3, off _ (Nat.le_refl _)⟩)
  have B9 := Lib.hid (show Box b w5 d _ _ from ⟨k9, off _ (by omega)⟩)
  have B6 := Lib.hid (show Box b w5 d _ _ from ⟨k6, off _ (by omega)⟩)
  have Off := Lib.hid off
  unfold i3v at Hcall
  rw [← hw5]
  have Hl := Lib.hid l0
  have Hq9 := Lib.hid k9
  clear hz4 hw5 hc5 k9 k3 k5 k6 off hq0 hcb hfr hq1 hsf l0 l1 l2 c3 c40 c41 c42
  refine Hcall.out.mono ?_
  rintro e w6 ⟨⟨d6, ha6, hpl6, hm6⟩, hinv⟩
  have hex : ∃ xa xn xc, e = .returned (.tuple #[.agg #[.slice xa xn xc, .string ⟨#[]⟩], .int .i64 (errOf (upQ p (within d.cnt limit) d.pl (1, (q : Int), 0)).1)]) := by
    rcases hu : (upQ p (within d.cnt limit) d.pl (1, (q : Int), 0)).1 with x | y
    · rw [hu] at hm6
      exact ⟨_, _, _, hm6⟩
    · rw [hu] at hm6
      obtain ⟨a, c, h, _⟩ := hm6
      exact ⟨_, _, _, h⟩
  obtain ⟨xa, xn, xc, rfl⟩ := hex
  have hdq := Hq0.out.1.after ha6 (hinv d6 hpl6 ha6)
  have hd6 : DbF p wb b w6 d6 := ⟨w0, RO, bv, bq, qv, hdq, grow Hq0.out.2.1 Hq0.out.2.2 ha6⟩
  have Hdq := Lib.hid hdq
  clear hdq
  have hcv : Chg [] w6 (w6.alloc (.cells #[.slice xa xn xc, .string ⟨#[]⟩] 31)) := (Chg.refl [] w6).alloc _
  have B3' := Lib.hid ((B3.out.after ha6).new hcv)
  have B9' := Lib.hid ((B9.out.after ha6).new hcv)
  have B6' := Lib.hid ((B6.out.after ha6).new hcv)
  have Bv := Lib.hid (Box.make hd6.mem #[.slice xa xn xc, .string ⟨#[]⟩] 31)
  have H6 := Lib.hid (hd6.new hcv)
  have Hpl := Lib.hid hpl6
  have Ha6 := Lib.hid ha6
  have Hcv := Lib.hid hcv
  obtain ⟨er, her⟩ : ∃ er, er = errOf (upQ p (within d.cnt limit) d.pl (1, (q : Int), 0)).1 := ⟨_, rfl⟩
  rw [← her]
  have Her := Lib.hid her
  clear her
  clear hm6 hinv hd6 hcv hpl6 ha6 B3 B9 B6 Hcall
  go_wp2_with fail
  obtain ⟨w7, hw7⟩ : ∃ y, y = w6.alloc (.cells #[.slice xa xn xc, .string ⟨#[]⟩] 31) := ⟨_, rfl⟩
  have Hcv' := Lib.hid (show Chg [] w6 w7 by rw [hw7]; exact Hcv.out)
  rw [← hw7] at B3' B9' B6' Bv H6 ⊢
  clear hw7 Hcv
  have h46 : w4.heap.size < w6.heap.size := by
    have := Ha6.out.chg.size
    have := lt_of_obj Hq9.out
    omega
  have n1 : ¬ w6.heap.size = w.heap.size + 1 + 1 + 1 := by have := Hz4.out; omega
  have n2 : ¬ w4.heap.size = w.heap.size + 1 + 1 + 1 := by have := Hz4.out; omega
  have n1' : ¬ w.heap.size + 1 + 1 + 1 = w6.heap.size := fun e => n1 e.symm
  have n2' : ¬ w.heap.size + 1 + 1 + 1 = w4.heap.size := fun e => n2 e.symm
  have v0 : w7.cell? ⟨w6.heap.size, 0, none⟩ = some (.slice xa xn xc) := cell_of_heap Bv.out.blk rfl
  have v1 : w7.cell? ⟨w6.heap.size, 1, none⟩ = some (.string ⟨#[]⟩) := cell_of_heap Bv.out.blk rfl
  have y3 : w7.cell? ⟨w.heap.size, 0, none⟩ = some (.pointer (some ⟨b, 0, none⟩)) := cell_of_heap B3'.out.blk rfl
  have y9 : w7.cell? ⟨w4.heap.size, 0, none⟩ = some (.int .i64 d.cnt) := cell_of_heap B9'.out.blk rfl
  have z0 : w7.cell? ⟨w.heap.size + 1 + 1 + 1, 0, none⟩ = some (.slice none 0 0) := cell_of_heap B6'.out.blk rfl
  have z1 : w7.cell? ⟨w.heap.size + 1 + 1 + 1, 1, none⟩ = some (.string ⟨#[]⟩) := cell_of_heap B6'.out.blk rfl
  have f0 : w7.frozen? ⟨w.heap.size + 1 + 1 + 1, 0, none⟩ = false := frozen_of_heap (i := 0) B6'.out.blk
  have f1 : w7.frozen? ⟨w.heap.size + 1 + 1 + 1, 1, none⟩ = false := frozen_of_heap (i := 1) B6'.out.blk
  go_region_held3 (fun w' => w'.cell? ⟨w6.heap.size, 0, none⟩ = some (.slice xa xn xc) ∧ w'.cell? ⟨w6.heap.size, 1, none⟩ = some (.string ⟨#[]⟩) ∧ w'.cell? ⟨w.heap.size, 0, none⟩ = some (.pointer (some ⟨b, 0, none⟩)) ∧ w'.cell? ⟨w4.heap.size, 0, none⟩ = some (.int .i64 d.cnt))
    (first | (go_keep; done) | (refine ⟨?_, ?_, ?_, ?_⟩ <;> (simp [go_sem, *]; done)))
    ((go_at_call 21; refine (computations_any _ b d6 (H6.out.mem.new ((Chg.refl [] w7).drew))).mono ?_; rintro e w8 ⟨rfl, rfl⟩))
  have hbe : ∀ W : World, ChgP (fun g => g = w.heap.size + 1 + 1 + 1) w7 W → WithinPost p wb b q limit w d (.returned (.tuple #[.agg #[.slice xa xn xc, .string ⟨#[]⟩], .int .i64 (IntKind.i64.wrap (d6.cnt - d.cnt)), .int .i64 er])) W := by
    intro W hW
    have hz := Hz4.out
    have h5 := Hc5.out
    have hl5 : w4.heap.size < w5.heap.size := lt_of_obj Hq9.out
    have hni : w.heap.size + 1 + 1 + 1 ∉ d6.imms := fun hm => (Ha6.out.imms _ hm).elim (fun h => by have := H.out.mem.bound _ h; omega) fun h => by omega
    have hall : ∀ g, g = w.heap.size + 1 + 1 + 1 → g ∉ d6.muts b ∧ g ∉ d6.imms ∧ ¬ RO g := by
      rintro g rfl
      exact ⟨B6'.out.off, hni, fun h => by have := Hrol.out _ h; omega⟩
    have h7 := (Hdq.out.new Hcv'.out).other hW hall
    have hch : ChgP (fun g => g ∈ d.muts b) w W := (((h5.p (S := fun g => g ∈ d.muts b)).trans Ha6.out.chg).new Hcv'.out).comp hW fun g hg => Or.inr (by omega)
    have haf : After b w W d d6 := ⟨h7.env.mem, hch, fun g hg => (Ha6.out.muts g hg).imp id fun h => Nat.le_trans h5.size h, fun g hg => (Ha6.out.imms g hg).imp id fun h => Nat.le_trans h5.size h, Ha6.out.comp, Ha6.out.stop⟩
    obtain ⟨_, _, _, _, _, _, g2, g3⟩ := H.out
    refine ⟨d6, .agg #[.slice xa xn xc, .string ⟨#[]⟩], ⟨w0, RO, bv, bq, qv, h7, grow g2 ⟨g3.1, Hq0.out.2.2.2⟩ haf⟩, Hpl.out, haf, ?_⟩
    rw [← Her.out]
  have Hbe := Lib.hid hbe
  obtain ⟨w9, hw9⟩ : ∃ y, y = ((w7.setCell ⟨w.heap.size + 1 + 1 + 1, 0, none⟩ (.slice xa xn xc)).setCell ⟨w.heap.size + 1 + 1 + 1, 1, none⟩ (.string ⟨#[]⟩)).drew := ⟨_, rfl⟩
  have hW9 : ChgP (fun g => g = w.heap.size + 1 + 1 + 1) w7 w9 := by
    rw [hw9]
    exact ((((ChgP.refl (fun g => g = w.heap.size + 1 + 1 + 1) w7).setCell (p := ⟨w.heap.size + 1 + 1 + 1, 0, none⟩) (Or.inl rfl) _).setCell (p := ⟨w.heap.size + 1 + 1 + 1, 1, none⟩) (Or.inl rfl) _)).new ((Chg.refl [] _).drew)
  have hres : w9.heap[w.heap.size + 1 + 1 + 1]? = some (.cells #[.slice xa xn xc, .string ⟨#[]⟩] 31 (0, 0)) := by
    rw [hw9]
    exact (heap_setCell_same (heap_setCell_same B6'.out.blk _) _).trans rfl
  rw [← hw9]
  have d0 : w9.cell? ⟨w.heap.size + 1 + 1 + 1, 0, none⟩ = some (.slice xa xn xc) := cell_of_heap hres (i := 0) rfl
  have d1 : w9.cell? ⟨w.heap.size + 1 + 1 + 1, 1, none⟩ = some (.string ⟨#[]⟩) := cell_of_heap hres (i := 1) rfl
  have HW9 := Lib.hid hW9
  clear hw9 hW9 hres hbe
  go_wp2_with fail
  exact bodyPost_ret (v := .tuple #[.agg #[.slice xa xn xc, .string ⟨#[]⟩], .int .i64 (IntKind.i64.wrap (d6.cnt - d.cnt)), .int .i64 er]) (by simp [results, Try.results77, go_sem, d0, d1]) rfl (Hbe.out _ HW9.out)
end Go.Proofs.Ytdeodcomlakpaaa
/- ChangedAt, Dependencies. -/
namespace Go.Proofs.Ytdeodcomlakpaaa
open Go.RowKit Go.ChangeMaps Go.MapKept
set_option linter.unusedVariables false
set_option linter.unusedSimpArgs false
set_option maxRecDepth 100000 in
set_option maxHeartbeats 4000000 in
theorem changedAt_any (w : World) (b : Nat) (d : Dm) (key : QK) (h : DmAt w b d) (hk : Inp.QKok key) :
    Calls Try.prog 32 #[.pointer (some ⟨b, 0, none⟩), i3v key] w fun e w' => e = .returned (.tuple #[.int .i64 ((aget d.pl.es key).map RV.chg |>.getD 0), .bool (aget d.pl.es key).isSome]) ∧ Chg [] w w' := by
  rw [Dm.aget_pl]
  obtain ⟨k1, k2, k3⟩ := key
  obtain ⟨wa, hwa⟩ : ∃ x, x = w.alloc (.cells #[.int .i64 k1, .int .i64 k2, .int .i64 k3] 27) := ⟨_, rfl⟩
  have hca : Chg [] w wa := by rw [hwa]; exact (Chg.refl [] w).alloc _
  have hkb : wa.heap[w.heap.size]? = some (.cells #[.int .i64 k1, .int .i64 k2, .int .i64 k3] 27 (0, 0)) := by rw [hwa]; exact heap_at _ _ _ rfl
  have Ha := Lib.hid (h.new hca)
  have Hkey := Lib.hid hk
  have q2 : wa.cell? ⟨b, 2, none⟩ = some (.map (some d.br)) := cell_of_heap Ha.out.blk rfl
  have e0 : wa.cell? ⟨w.heap.size, 0, none⟩ = some (.int .i64 k1) := cell_of_heap hkb rfl
  have e1 : wa.cell? ⟨w.heap.size, 1, none⟩ = some (.int .i64 k2) := cell_of_heap hkb rfl
  have e2 : wa.cell? ⟨w.heap.size, 2, none⟩ = some (.int .i64 k3) := cell_of_heap hkb rfl
  have Hca := Lib.hid hca
  clear h hk hca hkb
  unfold i3v
  go_enter Try.func32, Try.ntmps32
  go_wp2_with fail
  rw [← hwa]
  clear hwa
  refine wp_region_readsQ 6 (by kernel_rfl) (by kernel_rfl) ?_
  intro wd hwd
  simp only [List.take_succ_cons, List.take_zero, List.drop_succ_cons, List.drop_zero]
  have hcd : Chg [] wa wd := by rw [hwd]; exact (Chg.refl _ _).drew
  have q2d := (hcd.cell (lt_of_cell q2) (by simp)).trans q2
  have e0d := (hcd.cell (lt_of_cell e0) (by simp)).trans e0
  have e1d := (hcd.cell (lt_of_cell e1) (by simp)).trans e1
  have e2d := (hcd.cell (lt_of_cell e2) (by simp)).trans e2
  have hlk := (Ha.out.new hcd).res.lookup Inp.qkeyed Inp.qk_inj Try.underlying85 (Inp.qkOk Hkey.out) (ptr_zero wd) false
  rw [aget_amap] at hlk
  simp only [Bool.false_eq_true, if_false] at hlk
  unfold Inp.qk at hlk
  have Hd := Lib.hid (Ha.out.new hcd)
  have Hcd := Lib.hid (Hca.out.trans hcd)
  clear hwd hcd q2 e0 e1 e2
  cases hold : aget d.es (k1, k2, k3) with
  | none =>
    rw [hold] at hlk
    simp only [Option.map_none, Option.getD_none] at hlk
    have Hold := Lib.hid hold
    clear hold
    repeat go_big_quiet_step (fail)
    refine wpQuiet_nil ?_
    go_wp2_with fail
    go_ret2
    exact ⟨by rw [Hold.out]; rfl, Hcd.out⟩
  | some r =>
    rw [hold] at hlk
    simp only [Option.map_some, Option.getD_some] at hlk
    unfold Rs.val at hlk
    have Hold := Lib.hid hold
    clear hold
    repeat go_big_quiet_step (fail)
    refine wpQuiet_nil ?_
    have u1 : wd.cell? ⟨r.blk, 3, none⟩ = some (.int .i64 r.chg) := cell_of_heap (Hd.out.rs Hold.out).blk rfl
    go_wp2_with fail
    go_ret2
    exact ⟨by rw [Hold.out]; rfl, Hcd.out⟩
set_option maxHeartbeats 1000000 in
/-- slices.Clone of keys -/
theorem keysClone_any (p : Nat → Prop) (w : World) (v : Value) (ks : List QK) (h : I3s p w v ks) (hl : ks.length ≤ 1000) :
    Calls Try.prog 75 #[v] w fun e w' => ∃ v', e = .returned v' ∧ I3s (fun g => w.heap.size ≤ g ∧ g < w'.heap.size) w' v' ks ∧ Chg [] w w' := by
  obtain ⟨a, cap, rfl, h1, h2, h3⟩ := h
  cases a with
  | none =>
    have h0 : ks = [] := by
      rcases ks with _ | ⟨k, r⟩
      · rfl
      · obtain ⟨g, off, e, _⟩ := h3 (by simp)
        cases e
    subst h0
    have hnil := fun w : World => Lib.run_eql_slice_nil (P := Try.prog) w 53 27 none 0 cap 0 0 Try.underlying53
    clear h1 h2 h3
    go_enter Try.func75, Try.ntmps75
    go_wp2_with fail
    go_ret
    exact ⟨_, rfl, SlR.nil _ _ _ _, Chg.refl _ _⟩
  | some ad =>
    obtain ⟨i0, hi, hz0, hz1, hz2⟩ := info_parts (show (Try.prog.info? 27).map (fun i => (i.zero, i.size, i.bytes)) = some (some (.agg #[.int .i64 0, .int .i64 0, .int .i64 0]), 3, 24) by kernel_rfl)
    have hnil := fun w : World => Lib.run_eql_slice_nil (P := Try.prog) w 53 27 (some ad) ks.length cap 0 0 Try.underlying53
    have hcs : ∀ j u, (flat3 ks)[j]? = some u → (w.alloc (.cells #[] 27)).cell? (ad.add j) = some u := by
      intro j u hu
      have hpos : 0 < ks.length := by
        rcases ks with _ | ⟨k, r⟩
        · simp [flat3] at hu
        · simp
      obtain ⟨g, off, e, _, hc⟩ := h3 hpos
      cases e
      have h1 := flat3_cell hc j u hu
      rw [Addr.add_lit, World.cell?_alloc_past _ _ _ (lt_of_cell h1), h1]
    have h1c : ∀ u ∈ flat3 ks, u.oneCell' = true := by
      intro u hu
      unfold flat3 at hu
      obtain ⟨k, _, hu⟩ := List.mem_flatMap.1 hu
      simp only [List.mem_cons, List.not_mem_nil, or_false] at hu
      rcases hu with rfl | rfl | rfl <;> rfl
    have Hcs := Lib.hid hcs
    have H1c := Lib.hid h1c
    clear hcs h1c h3
    go_enter Try.func75, Try.ntmps75
    go_wp2_with (at_builtin; refine wpList_append_own _ rfl _ _ 53 rfl w.heap.size 27 i0 (.agg #[.int .i64 0, .int .i64 0, .int .i64 0]) 3 24 Try.underlying53 hi hz0 hz1 hz2 rfl (by decide) (.slice (some ⟨w.heap.size, 0, none⟩) 0 0) 0 [] rfl (World.ownsRow_made w #[] 0 (Nat.le_refl _) (Nat.zero_le _) rfl) ad ks.length cap (flat3 ks) rfl (flat3_len ks) Hcs.out H1c.out (by unfold maxLen; omega) (by omega) (by simp) ?_; intro v' w1 hown hgr _)
    go_ret
    simp only [Nat.zero_add, List.nil_append] at hown
    exact ⟨v', rfl, i3s_of_row hown rfl, ((Chg.refl [] w).alloc _).grown hgr (by simp [Value.ownBlock])⟩
end Go.Proofs.Ytdeodcomlakpaaa
/- From-scratch consistency (plain): Set, Forget; what Get answers. -/
namespace Go.Proofs.Ytdeodcomlakpaaa
open Go.RowKit
set_option linter.unusedVariables false
set_option linter.unusedSimpArgs false
section
variable {p : Prg} {H : Hist} {s : PS}
theorem Inv.forget (h : Inv p H s) (k : QK) : Inv p H (forgetP s k) :=
  h.fewer rfl (fun _ => rfl) (fun _ => rfl) (fun q r hr => by
    unfold forgetP at hr
    simp only [aget_adel] at hr
    split at hr
    · cases hr
    · exact hr) ⟨fun k' r hr => by
      unfold forgetP at hr
      simp only [aget_adel] at hr
      split at hr
      · cases hr
      · exact h.w.es k' r hr, h.w.act, h.w.du⟩
theorem inp_set {k : QK} {xs : List Int} {du : Int} (hne : ¬ ((s.inp k).du = du ∧ (s.inp k).xs = xs)) (k' : QK) : (setP s k xs du).inp k' = if k = k' then ⟨xs, s.rev + 1, du⟩ else s.inp k' := by
  unfold setP
  rw [if_neg hne]
  unfold PS.inp
  simp only [aget_ups]
  split <;> rfl
theorem last_set {k : QK} {xs : List Int} {du : Int} (hne : ¬ ((s.inp k).du = du ∧ (s.inp k).xs = xs)) (d : Int) (hd0 : 0 ≤ d) (hd2 : d ≤ 2) : (setP s k xs du).last d = s.rev + 1 ∨ ((setP s k xs du).last d = s.last d ∧ (s.inp k).du < d ∧ du < d) := by
  unfold setP
  rw [if_neg hne]
  unfold PS.last
  rcases (by omega : d = 0 ∨ d = 1 ∨ d = 2) with rfl | rfl | rfl
  · left; simp
  · simp only [show ¬ (1 : Int) = 0 by decide, if_false, if_true]
    split
    · left; rfl
    · right; exact ⟨rfl, by omega, by omega⟩
  · simp only [show ¬ (2 : Int) = 0 by decide, show ¬ (2 : Int) = 1 by decide, if_false]
    split
    · left; rfl
    · right; exact ⟨rfl, by omega, by omega⟩
theorem last_set_le {k : QK} {xs : List Int} {du : Int} (hl : ∀ d, s.last d ≤ s.rev) (hne : ¬ ((s.inp k).du = du ∧ (s.inp k).xs = xs)) (d : Int) : (setP s k xs du).last d ≤ s.rev + 1 := by
  have h0 := hl 0
  have h1 := hl 1
  have h2 := hl 2
  unfold PS.last at h0 h1 h2
  simp only [show ¬ (1 : Int) = 0 by decide, show ¬ (2 : Int) = 0 by decide, show ¬ (2 : Int) = 1 by decide, if_false, if_true] at h0 h1 h2
  unfold setP
  rw [if_neg hne]
  unfold PS.last
  simp only
  split
  · exact Int.le_refl _
  · split
    · split <;> omega
    · split <;> omega
/-- Set -/
theorem Inv.set (h : Inv p H s) (k : QK) (xs : List Int) (du : Int) (hdu : 0 ≤ du ∧ du < 3) : ∃ H', Inv p H' (setP s k xs du) ∧ ∀ v, v ≤ s.rev → H' v = H v := by
  by_cases hne : (s.inp k).du = du ∧ (s.inp k).xs = xs
  · have : setP s k xs du = s := by unfold setP; rw [if_pos hne]
    rw [this]
    exact ⟨H, h, fun _ _ => rfl⟩
  · have hrev : (setP s k xs du).rev = s.rev + 1 := by unfold setP; rw [if_neg hne]
    have hes : (setP s k xs du).es = s.es := by unfold setP; rw [if_neg hne]
    have hin := inp_set (xs := xs) (du := du) hne
    obtain ⟨H', hold, hnew⟩ : ∃ H' : Hist, (∀ v, v ≤ s.rev → H' v = H v) ∧ ∀ v k', s.rev < v → H' v k' = (setP s k xs du).inp k' :=
      ⟨fun v k' => if v ≤ s.rev then H v k' else (setP s k xs du).inp k', fun v hv => by funext k'; simp only [if_pos hv], fun v k' hv => by simp only [if_neg (by omega : ¬ v ≤ s.rev)]⟩
    refine ⟨H', ⟨invW_set h.w k xs du hdu, ⟨fun k' => ?_, fun d v k' hd0 hd2 hl hv hdv v' h1 h2 => ?_, fun k' v hc hv => ?_, fun d => ?_⟩, fun q r hr => ?_⟩, hold⟩
    · rw [hrev]; exact hnew _ _ (by omega)
    · rw [hrev] at hv h2
      by_cases hvr : v ≤ s.rev
      · have e1 : H' v k' = H v k' := by rw [hold v hvr]
        rw [e1] at hdv ⊢
        rcases last_set (xs := xs) (du := du) hne d hd0 hd2 with e | ⟨e, g1, g2⟩
        · omega
        · rw [e] at hl
          by_cases hv' : v' ≤ s.rev
          · rw [hold v' hv']
            exact h.hist.const d v k' hd0 hd2 hl hvr hdv v' h1 hv'
          · have hc := h.hist.const d v k' hd0 hd2 hl hvr hdv s.rev hvr (Int.le_refl _)
            rw [h.hist.now] at hc
            rw [hnew v' k' (by omega), hin]
            by_cases e : k = k'
            · subst e
              rw [← hc] at hdv
              omega
            · rw [if_neg e]
              exact hc
      · have : v' = v := by omega
        rw [this]
    · rw [hrev] at hv
      rw [hin] at hc ⊢
      by_cases hvr : v ≤ s.rev
      · rw [hold v hvr]
        by_cases e : k = k'
        · rw [if_pos e] at hc
          simp only at hc
          omega
        · rw [if_neg e] at hc ⊢
          exact h.hist.ch k' v hc hvr
      · rw [hnew v k' (by omega), hin]
    · rw [hrev]
      exact last_set_le h.hist.last hne d
    · rw [hes] at hr
      have hR := h.res q r hr
      have hb := (h.w.es _ r hr).2.1
      have e1 : insH p H' r.ver = insH p H r.ver := by
        unfold insH
        rw [hold r.ver hR.ver]
      refine ⟨by rw [hrev]; have := hR.ver; omega, hR.chg, by rw [e1]; exact hR.xs, by rw [e1]; exact hR.deps, fun k' h0 ht => ?_, fun hl q' r' ht hr' => ?_, fun q' r' hm hr' hc => ?_⟩
      · rw [e1] at ht
        rw [hold r.ver hR.ver]
        exact hR.low k' h0 ht
      · rw [e1] at ht
        rw [hes] at hr'
        refine hR.sub ?_ q' r' ht hr'
        rcases last_set (xs := xs) (du := du) hne r.dur hb.1 hb.2 with e | ⟨e, _⟩
        · have := hR.ver; omega
        · rw [← e]; exact hl
      · rw [hes] at hr'
        rw [e1]
        exact hR.dep q' r' hm hr' hc
/-- the inputs are those of a list -/
def InpI (p : Prg) (s : PS) (ins : List Int) : Prop := ∀ i : Nat, (i : Int) < p.inp → (s.inp (0, (i : Int), 0)).xs.getD 0 0 = ins.getD i 0
theorem val_now (hp : PrgOk p) (h : Inv p H s) {ins : List Int} (hi : InpI p s ins) {q : Nat} (hq : q < p.qs.length) : val p (insH p H s.rev) q = val p ins q ∧ reads p (insH p H s.rev) q = reads p ins q := by
  obtain ⟨a, b, _⟩ := val_same hp (ins := insH p H s.rev) (ins' := ins) (q + 1) q (by omega) hq fun i ht => by
    have hlt : (i : Int) < p.inp := by
      rcases ht.key hp hq with ⟨_, _, h, _⟩ | ⟨h, _⟩
      · exact h
      · exact absurd h (by simp)
    rw [insH_get hlt, h.hist.now, hi i hlt]
  exact ⟨a, b⟩
theorem idl_none (h : s.act = []) (m : Nat) : Idl m s := fun q _ => by unfold PS.busy; rw [h]; rfl
/-- Get, where nobody stops it -/
theorem getI (hp : PrgOk p) (h : Inv p H s) (ha : s.act = []) {q : Nat} (hq : q < p.qs.length) : ∃ s' r, upQ p (fun _ => false) s (1, (q : Int), 0) = (.ok (), s') ∧ Stp p H (q + 1) s s' ∧ aget s'.es (1, (q : Int), 0) = some r ∧ r.ver = s.rev ∧ Inv p H s'.idle := by
  rcases good_UQ hp H (fun _ => false) p.qs.length s q hq hq h (idl_none ha _) with ⟨s', h1, h2, _, r, h3, h4⟩ | ⟨s', _, _, s2, h2⟩
  · exact ⟨s', r, h1, h2, h3, h4, h2.inv.idle⟩
  · cases h2
/-- Get, whatever stops it -/
theorem untilI (hp : PrgOk p) (h : Inv p H s) (ha : s.act = []) (stp : PS → Bool) {q : Nat} (hq : q < p.qs.length) : ∃ x s', upQ p stp s (1, (q : Int), 0) = (x, s') ∧ Stp p H (q + 1) s s' ∧ Inv p H s'.idle ∧ ((x = .ok () ∧ ∃ r, aget s'.es (1, (q : Int), 0) = some r ∧ r.ver = s.rev) ∨ (x = .error 12 ∧ ∃ s2, stp s2 = true)) := by
  rcases good_UQ hp H stp p.qs.length s q hq hq h (idl_none ha _) with ⟨s', h1, h2, _, r, h3, h4⟩ | ⟨s', h1, h2, h3⟩
  · exact ⟨_, s', h1, h2, h2.inv.idle, Or.inl ⟨rfl, r, h3, h4⟩⟩
  · exact ⟨_, s', h1, h2, h2.inv.idle, Or.inr ⟨rfl, h3⟩⟩
/-- a result that is up to date is not computed again, whatever stops it -/
theorem again (hp : PrgOk p) (ha : s.act = []) (stp : PS → Bool) {q : Nat} (hq : q < p.qs.length) {r : RV} (hr : aget s.es (1, (q : Int), 0) = some r) (hv : r.ver = s.rev) : upQ p stp s (1, (q : Int), 0) = (.ok (), finP (begP s (1, (q : Int), 0)) (1, (q : Int), 0)) := by
  unfold upQ
  obtain ⟨n, hn⟩ : ∃ n, p.qs.length = n + 1 := ⟨p.qs.length - 1, by omega⟩
  rw [hn]
  exact updP_yes (U := UQ p.qs stp n) (C := compQ p.qs) (stp := stp) (by unfold PS.busy; rw [ha]; rfl) hr (by unfold validP; exact if_pos (Or.inl hv))
end
end Go.Proofs.Ytdeodcomlakpaaa
