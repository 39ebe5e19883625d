/- recompute's closure: a get. -/
import Derived.Test.YtggiddhhbilcjaaGd
import Derived.Test.YtggiddhhbilcjaaAnyT
/- recompute's closure: a get. -/
namespace Go.Proofs.Ytggiddhhbilcjaa
open Go.RowKit
set_option linter.unusedVariables false
set_option linter.unusedSimpArgs false
/-- behind the value's reading -/
structure GJoin (w0 : World) (RO : Nat → Prop) (b : Nat) (K : PS → QK → Prop) (Kk : QK → Prop) (ws : World) (ds : Dm) (cdb cr rb : Nat) (ver : Int) (F : Nat → Prop) (w : World) (k : QK) (s' : PS) (l : List QK) (u : Int) (xs : List Int) (wj : World) (d : Dm) (da : Option Addr) (dcap : Nat) (a : Option Addr) (c : Nat) : Prop where
  mem : GAt w0 RO b K Kk ws ds cdb cr rb ver (s', l, u) wj d da dcap
  free : GFree b ws rb d da F
  fl : ∀ g, F g → g < w.heap.size
  key : wj.heap[w.heap.size]? = some (.cells #[.int .i64 k.1, .int .i64 k.2.1, .int .i64 k.2.2] 43 (0, 0))
  out : wj.heap[w.heap.size + 1]? = some (.cells #[.slice none 0 0, .string ⟨#[]⟩] 39 (0, 0))
  val : wj.heap[w.heap.size + 1 + 1]? = some (.cells #[.slice a xs.length c, .string ⟨#[]⟩] 39 (0, 0))
  ints : Inp.Ints wj (.slice a xs.length c) xs
  new : ∀ ad, a = some ad → w.heap.size + 3 ≤ ad.block
  size : xs.length * 8 ≤ 140737488355328
  chg : ChgP (fun g => ¬ F g ∧ ¬ GRO RO cdb cr g) w wj
  old : rb < w.heap.size ∧ ∀ g ∈ oblk da, g < w.heap.size
theorem own_oblk {a : Option Addr} {n c g : Nat} (h : (Value.slice a n c).ownBlock = some g) : g ∈ oblk a := by
  cases a <;> simp [Value.ownBlock, oblk] at h ⊢
  exact h.symm
theorem oblk_own {a : Option Addr} {n c g : Nat} (h : g ∈ oblk a) : (Value.slice a n c).ownBlock = some g := by
  cases a <;> simp [Value.ownBlock, oblk] at h ⊢
  exact h.symm
section
variable {w0 : World} {RO : Nat → Prop} {b : Nat} {comp stop : Value} {K : PS → QK → Prop} {Kk : QK → Prop} {U : PS → QK → Except Int Unit × PS} {ch : Int → List PanicEntry} {ws : World} {ds : Dm} {cdb cr rb : Nat} {ver : Int}
theorem gjoin {F : Nat → Prop} {w w1 : World} {k : QK} {s' : PS} {l : List QK} {u : Int} {xs : List Int} {d : Dm} {da : Option Addr} {dcap : Nat} {a : Option Addr} {c : Nat} (h : GAt w0 RO b K Kk ws ds cdb cr rb ver (s', l, u) w1 d da dcap) (hF : GFree b ws rb d da F) (hFl : ∀ g, F g → g < w.heap.size)
    (hold : rb < w.heap.size ∧ ∀ g ∈ oblk da, g < w.heap.size) (hws : ws.heap.size ≤ w.heap.size) (hvm : w.heap.size + 1 + 1 ∉ d.muts b) (hvi : w.heap.size + 1 + 1 ∉ d.imms) (hro : ∀ g, GRO RO cdb cr g → g < w.heap.size)
    (B0 : w1.heap[w.heap.size]? = some (.cells #[.int .i64 k.1, .int .i64 k.2.1, .int .i64 k.2.2] 43 (0, 0))) (B1 : w1.heap[w.heap.size + 1]? = some (.cells #[.slice none 0 0, .string ⟨#[]⟩] 39 (0, 0))) (B2 : w1.heap[w.heap.size + 1 + 1]? = some (.cells #[.slice none 0 0, .string ⟨#[]⟩] 39 (0, 0)))
    (hi : Inp.Ints w1 (.slice a xs.length c) xs) (hn : ∀ ad, a = some ad → w.heap.size + 3 ≤ ad.block) (hs : xs.length * 8 ≤ 140737488355328) (hc : ChgP (fun g => ¬ F g ∧ ¬ GRO RO cdb cr g) w w1) :
    GJoin w0 RO b K Kk ws ds cdb cr rb ver F w k s' l u xs ((w1.setCell ⟨w.heap.size + 1 + 1, 0, none⟩ (.slice a xs.length c)).setCell ⟨w.heap.size + 1 + 1, 1, none⟩ (.string ⟨#[]⟩)) d da dcap a c := by
  have hcv : ChgP (fun g => g = w.heap.size + 1 + 1) w1 ((w1.setCell ⟨w.heap.size + 1 + 1, 0, none⟩ (.slice a xs.length c)).setCell ⟨w.heap.size + 1 + 1, 1, none⟩ (.string ⟨#[]⟩)) :=
    ((ChgP.refl (fun g => g = w.heap.size + 1 + 1) w1).setCell (p := ⟨w.heap.size + 1 + 1, 0, none⟩) (Or.inl rfl) _).setCell (p := ⟨w.heap.size + 1 + 1, 1, none⟩) (Or.inl rfl) _
  have hz2 := lt_of_obj B2
  refine ⟨h.kept hcv ?_ ?_, hF, hFl, ?_, ?_, ?_, ?_, hn, hs, ?_, hold⟩
  · rintro g rfl
    exact ⟨by omega, hvm, hvi, by have := hold.1; omega, fun hm => by have := hold.2 _ hm; omega⟩
  · rintro g rfl hr
    have := hro _ hr
    omega
  · exact (hcv.block _ (by omega) (by omega)).trans B0
  · exact (hcv.block _ (by omega) (by omega)).trans B1
  · exact (heap_setCell_same (heap_setCell_same B2 _) _).trans rfl
  · refine intsKept' hi fun g hg => hcv.block g ?_ ?_
    · rcases hi with ⟨e, _⟩ | ⟨g', off, cap, cc, fr, e, _, _, hh, _⟩
      · simp only [Value.slice.injEq] at e; rw [e.1] at hg; simp [oblk] at hg
      · simp only [Value.slice.injEq] at e; rw [e.1] at hg; simp [oblk] at hg; subst hg; exact lt_of_obj hh
    · intro e
      cases a with
      | none => simp [oblk] at hg
      | some ad => simp [oblk] at hg; have := hn ad rfl; omega
  · exact hc.comp hcv (by rintro g rfl; right; omega)
theorem gend {F : Nat → Prop} {σ : GS} {w wj w2 : World} {k : QK} {s' : PS} {l l2 : List QK} {u u2 : Int} {xs : List Int} {d : Dm} {da da2 : Option Addr} {dcap dcap2 : Nat} {a : Option Addr} {c : Nat} {v v' : Value} (hget : getP U σ k = (.ok xs, (s', l2, u2)))
    (hj : GJoin w0 RO b K Kk ws ds cdb cr rb ver F w k s' l u xs wj d da dcap a c) (h2 : GAt w0 RO b K Kk ws ds cdb cr rb ver (s', l2, u2) w2 d da2 dcap2) (hF2 : GFree b ws rb d da2 F) (hda : ∀ g ∈ oblk da2, g ∈ oblk da ∨ wj.heap.size ≤ g) (hc : ChgP (fun g => g ∈ oblk da ∨ g = rb) wj w2)
    (hws : ws.heap.size ≤ w.heap.size) (hvm : w.heap.size + 1 ∉ d.muts b) (hvi : w.heap.size + 1 ∉ d.imms) (hro : ∀ g, GRO RO cdb cr g → g < w.heap.size) :
    VPost (GI w0 RO b K Kk ws ds cdb cr rb ver) (GRO RO cdb cr) (getP U) ch F σ k w (.returned (.agg #[.slice a xs.length c, .string ⟨#[]⟩])) ((w2.setCell ⟨w.heap.size + 1, 0, none⟩ v).setCell ⟨w.heap.size + 1, 1, none⟩ v') := by
  have hcv : ChgP (fun g => g = w.heap.size + 1) w2 ((w2.setCell ⟨w.heap.size + 1, 0, none⟩ v).setCell ⟨w.heap.size + 1, 1, none⟩ v') :=
    ((ChgP.refl (fun g => g = w.heap.size + 1) w2).setCell (p := ⟨w.heap.size + 1, 0, none⟩) (Or.inl rfl) _).setCell (p := ⟨w.heap.size + 1, 1, none⟩) (Or.inl rfl) _
  have lo := lt_of_obj hj.out
  have lv := lt_of_obj hj.val
  have hall : ChgP (fun g => (g ∈ oblk da ∨ g = rb) ∨ g = w.heap.size + 1) wj ((w2.setCell ⟨w.heap.size + 1, 0, none⟩ v).setCell ⟨w.heap.size + 1, 1, none⟩ v') := (hc.mono fun _ h => Or.inl h).comp hcv fun g hg => Or.inl (Or.inr hg)
  have hk := h2.kept hcv (by
    rintro g rfl
    exact ⟨by omega, hvm, hvi, by have := hj.old.1; omega, fun hm => (hda _ hm).elim (fun h => by have := hj.old.2 _ h; omega) fun h => by omega⟩) (by
    rintro g rfl hr
    have := hro _ hr
    omega)
  unfold VPost
  rw [hget]
  refine ⟨⟨a, c, rfl, intsKept' hj.ints fun g hg => ?_, hj.size⟩, ⟨d, da2, dcap2, hk, hF2, fun g hg => ?_⟩, hj.chg.comp hall ?_⟩
  · have hlt : g < wj.heap.size := by
      rcases hj.ints with ⟨e, _⟩ | ⟨g', off, cap, cc, fr, e, _, _, hh, _⟩
      · simp only [Value.slice.injEq] at e; rw [e.1] at hg; simp [oblk] at hg
      · simp only [Value.slice.injEq] at e; rw [e.1] at hg; simp [oblk] at hg; subst hg; exact lt_of_obj hh
    have hge : w.heap.size + 3 ≤ g := by
      cases a with
      | none => simp [oblk] at hg
      | some ad => simp [oblk] at hg; have := hj.new ad rfl; omega
    refine hall.block g hlt ?_
    rintro ((h | h) | h)
    · have := hj.old.2 _ h; omega
    · have := hj.old.1; omega
    · omega
  · have := hj.fl g hg
    have := hall.size
    omega
  · rintro g ((h | rfl) | rfl)
    · exact Or.inl (hj.mem.chg hj.free g (Or.inr (Or.inr h)))
    · exact Or.inl (hj.mem.chg hj.free _ (Or.inr (Or.inl rfl)))
    · right; omega
set_option maxRecDepth 100000 in
set_option maxHeartbeats 4000000 in
theorem rget_any (fam : UFam w0 RO b comp stop K U ch) (hcs : ds.comp = comp ∧ ds.stop = stop) (fin : ∀ l : List QK, l.Nodup → (∀ k ∈ l, Kk k) → l.length ≤ 1000) (F : Nat → Prop) (σ : GS) (w : World) (k : QK) (hk : Kk k) (hI : GI w0 RO b K Kk ws ds cdb cr rb ver F σ w) :
    Calls Try.prog 107 #[i3v k, .pointer (some ⟨cdb, 0, none⟩), .pointer (some ⟨cr, 0, none⟩)] w (VPost (GI w0 RO b K Kk ws ds cdb cr rb ver) (GRO RO cdb cr) (getP U) ch F σ k w) := by
  obtain ⟨d, da, dcap, hg, hF, hFl⟩ := hI
  obtain ⟨s, l, u⟩ := σ
  have hkk := hg.ks k hk
  obtain ⟨k1, k2, k3⟩ := k
  have q0 : w.cell? ⟨cdb, 0, none⟩ = some (.pointer (some ⟨b, 0, none⟩)) := cell_of_heap hg.bdb rfl
  have q1 : w.cell? ⟨b, 1, none⟩ = some (.pointer (some ⟨d.bs, 0, none⟩)) := cell_of_heap hg.env.mem.blk rfl
  have lq0 : cdb < w.heap.size := lt_of_cell q0
  have lq1 : b < w.heap.size := lt_of_cell q1
  have hlt : cdb < w.heap.size + 1 := by omega
  have hlt2 : cdb < w.heap.size + 1 + 1 := by omega
  have hlt3 : b < w.heap.size + 1 := by omega
  have hlt4 : b < w.heap.size + 1 + 1 := by omega
  have n0 := World.new_ne w _ q0
  have n1 := World.new_ne w _ q1
  have lrb : rb < w.heap.size := lt_of_obj hg.res
  have Hold := Lib.hid (And.intro lrb hg.dalt)
  have Hst := Lib.hid hg.env.mem.store
  have Htx := Lib.hid (hg.env.mem.tx (k1, k2, k3))
  have Hg := Lib.hid hg
  have HF := Lib.hid (And.intro hF hFl)
  have Hk := Lib.hid hk
  have Hkk := Lib.hid hkk
  have hpl := hg.pl
  simp only at hpl
  subst hpl
  clear hg hF hFl hk hkk
  by_cases h0 : k1 = 0
  · subst h0
    have Hget := Lib.hid (show getP U (d.pl, l, u) (0, k2, k3) = (.ok (d.S.at (0, k2, k3)).xs, (d.pl, addK l (0, k2, k3), min u (d.S.at (0, k2, k3)).du)) by unfold getP; rw [if_pos rfl, Dm.inp_pl]; rfl)
    unfold i3v
    go_enter Try.func107, Try.ntmps107
    go_wp2_with fail
    go_region_held3 (fun w' => w'.cell? ⟨cdb, 0, none⟩ = some (.pointer (some ⟨b, 0, none⟩)) ∧ w'.cell? ⟨b, 1, none⟩ = some (.pointer (some ⟨d.bs, 0, none⟩)) ∧ w'.cell? ⟨w.heap.size, 0, none⟩ = some (.int .i64 0) ∧ w'.cell? ⟨w.heap.size, 1, none⟩ = some (.int .i64 k2) ∧ w'.cell? ⟨w.heap.size, 2, none⟩ = some (.int .i64 k3))
      (first | (go_keep; done) | (refine ⟨?_, ?_, ?_, ?_, ?_⟩ <;> (simp [go_sem, *]; done)))
      ((go_at_call 74; refine (Inp.get_any d.bs d.bsm d.S (0, k2, k3) _ (Hst.out.same (by exact ((((Chg.refl [] w).alloc _).alloc _).alloc _).drew)) Hkk.out.1).mono ?_; rintro e w1 ⟨a1, c1, he, hi1, hn1, hc1⟩; rw [Htx.out] at he; subst he; have hcw : Chg [] w w1 := ((((Chg.refl [] w).alloc _).alloc _).alloc _).drew.new hc1; have B0 := (hc1.block w.heap.size (by first | (simp; done) | (simp; omega)) (by simp)).trans ((heap_past _ _ _ (by first | (simp; done) | (simp; omega))).trans ((heap_past _ _ _ (by first | (simp; done) | (simp; omega))).trans (heap_at _ _ _ rfl))); have B1 := (hc1.block (w.heap.size + 1) (by first | (simp; done) | (simp; omega)) (by simp)).trans ((heap_past _ _ _ (by first | (simp; done) | (simp; omega))).trans (heap_at _ _ _ (by simp))); have B2 := (hc1.block (w.heap.size + 1 + 1) (by simp) (by simp)).trans (heap_at _ _ _ (by simp)); have k0' := (hcw.cell (p := ⟨cdb, 0, none⟩) lq0 (by simp)).trans q0; have k1' := (hcw.cell (p := ⟨b, 1, none⟩) lq1 (by simp)).trans q1; have x0 := cell_of_heap B0 (i := 0) rfl; have x1 := cell_of_heap B0 (i := 1) rfl; have x2 := cell_of_heap B0 (i := 2) rfl; have v0 := cell_of_heap B2 (i := 0) rfl; have v1 := cell_of_heap B2 (i := 1) rfl; have fv0 := frozen_of_heap B2 (i := 0); have fv1 := frozen_of_heap B2 (i := 1); have lz : w.heap.size + 2 < w1.heap.size := (by have := hc1.size; simp at this; omega)))
    go_wp2_with fail
    have hm := Hg.out.env.mem
    have hj := gjoin (k := (0, k2, k3)) (Hg.out.new hcw) HF.out.1 HF.out.2 Hold.out Hg.out.next.chg.size (fun h => by have := hm.lt _ h; omega) (fun h => by have := hm.bound _ h; omega) (fun g hg => GI.ro ⟨d, da, dcap, Hg.out, HF.out⟩ g hg) B0 B1 B2 hi1 (fun ad ha => by have := hn1 ad ha; simp at this; omega) (hm.store.at _).2 hcw.p
    obtain ⟨wj, hwj⟩ : ∃ x, x = (w1.setCell ⟨w.heap.size + 1 + 1, 0, none⟩ (.slice a1 (d.S.at (0, k2, k3)).xs.length c1)).setCell ⟨w.heap.size + 1 + 1, 1, none⟩ (.string ⟨#[]⟩) := ⟨_, rfl⟩
    rw [← hwj] at hj ⊢
    have Hj := Lib.hid hj
    have Hvm := Lib.hid (show w.heap.size + 1 ∉ d.muts b ∧ w.heap.size + 1 ∉ d.imms from ⟨fun h => by have := hm.lt _ h; omega, fun h => by have := hm.bound _ h; omega⟩)
    clear hj hwj hm hi1 hn1 hc1 hcw B0 B1 B2 k0' k1' x0 x1 x2 v0 v1 fv0 fv1 lz
    generalize (d.S.at (0, k2, k3)).ch = ich
    generalize d.S.at (0, k2, k3) = iv at *
    have c0 : wj.cell? ⟨cr, 0, none⟩ = some (.pointer (some ⟨rb, 0, none⟩)) := cell_of_heap Hj.out.mem.bre rfl
    have c1' : wj.cell? ⟨rb, 5, none⟩ = some (.slice da l.length dcap) := cell_of_heap Hj.out.mem.res rfl
    have e0 := cell_of_heap Hj.out.key (i := 0) rfl
    have e1 := cell_of_heap Hj.out.key (i := 1) rfl
    have e2 := cell_of_heap Hj.out.key (i := 2) rfl
    refine wp_region_reads 5 (by kernel_rfl) (by kernel_rfl) ?_
    intro wd hwd
    simp only [List.take_succ_cons, List.take_zero, List.drop_succ_cons, List.drop_zero]
    have hcd : Chg [] wj wd := by rw [hwd]; exact (Chg.refl _ _).drew
    have c0d := (hcd.cell (lt_of_cell c0) (by simp)).trans c0
    have c1d := (hcd.cell (lt_of_cell c1') (by simp)).trans c1'
    have e0d := (hcd.cell (lt_of_cell e0) (by simp)).trans e0
    have e1d := (hcd.cell (lt_of_cell e1) (by simp)).trans e1
    have e2d := (hcd.cell (lt_of_cell e2) (by simp)).trans e2
    have Hcon := Lib.hid (keyContains_any _ wd _ l (0, k2, k3) (i3s_of_own (Hj.out.mem.new hcd).row) (fun g hg => ((Hj.out.mem.new hcd).row.lt g hg).2))
    clear hwd c0 c1' e0 e1 e2
    simp only at e0d e1d e2d
    repeat still_step
    refine wpStill_nil ?_
    go_wp2_with fail
    refine Hcon.out.mono ?_
    rintro e w2 ⟨rfl, cc2⟩
    have hc2 := hcd.trans cc2
    have Hm2 := Lib.hid (Hj.out.mem.new hc2)
    have Hc2 := Lib.hid hc2
    clear hc2 cc2 c0d c1d e0d e1d e2d hcd
    by_cases hin : ((0 : Int), k2, k3) ∈ l
    · rw [decide_eq_true hin]
      have c0 : w2.cell? ⟨cr, 0, none⟩ = some (.pointer (some ⟨rb, 0, none⟩)) := cell_of_heap Hm2.out.bre rfl
      have c4 : w2.cell? ⟨rb, 4, none⟩ = some (.int .i64 u) := cell_of_heap Hm2.out.res rfl
      have f4 := frozen_of_heap Hm2.out.res (i := 4)
      go_wp2_with fail
      refine wp_region_reads 7 (by kernel_rfl) (by kernel_rfl) ?_
      intro wd hwd
      simp only [List.take_succ_cons, List.take_zero, List.drop_succ_cons, List.drop_zero]
      have hcd : Chg [] w2 wd := by rw [hwd]; exact (Chg.refl _ _).drew
      have c0d := (hcd.cell (lt_of_cell c0) (by simp)).trans c0
      have c4d := (hcd.cell (lt_of_cell c4) (by simp)).trans c4
      have f4d := (hcd.frozen (p := ⟨rb, 4, none⟩) (lt_of_cell c4) (by simp)).trans f4
      have hcj : ChgP (fun g => g ∈ oblk da ∨ g = rb) wj wd := (Hc2.out.trans hcd).p
      have v0 := (hcj.cell (p := ⟨w.heap.size + 1 + 1, 0, none⟩) (lt_of_obj Hj.out.val) (fun h => h.elim (fun h => by have := Hold.out.2 _ h; simp only at this; omega) (fun h => by simp only at h; omega))).trans (cell_of_heap Hj.out.val (i := 0) rfl)
      have v1 := (hcj.cell (p := ⟨w.heap.size + 1 + 1, 1, none⟩) (lt_of_obj Hj.out.val) (fun h => h.elim (fun h => by have := Hold.out.2 _ h; simp only at this; omega) (fun h => by simp only at h; omega))).trans (cell_of_heap Hj.out.val (i := 1) rfl)
      have hob := (hcj.block (w.heap.size + 1) (lt_of_obj Hj.out.out) (fun h => h.elim (fun h => by have := Hold.out.2 _ h; omega) (fun h => by omega))).trans Hj.out.out
      have o0 := cell_of_heap hob (i := 0) rfl
      have o1 := cell_of_heap hob (i := 1) rfl
      have of0 := frozen_of_heap hob (i := 0)
      have of1 := frozen_of_heap hob (i := 1)
      have Hwd := Lib.hid (Hm2.out.new hcd)
      have Hcj := Lib.hid hcj
      clear hwd c0 c4 f4 hcj hob hcd
      repeat still_step
      refine wpStill_nil ?_
      go_wp2_with fail
      refine bodyPost_ret (v := .agg #[.slice a1 iv.xs.length c1, .string ⟨#[]⟩]) (by simp [results, Try.results107, go_sem, o0, o1]) rfl ?_
      exact gend (by rw [Hget.out]; simp only [addK, if_pos hin]) Hj.out Hwd.out.dur HF.out.1 (fun g hg => Or.inl hg) (Hcj.out.setCell (Or.inl (Or.inr rfl)) _) Hg.out.next.chg.size Hvm.out.1 Hvm.out.2 (fun g hg => GI.ro ⟨d, da, dcap, Hg.out, HF.out⟩ g hg)
    · rw [decide_eq_false hin]
      have c0 : w2.cell? ⟨cr, 0, none⟩ = some (.pointer (some ⟨rb, 0, none⟩)) := cell_of_heap Hm2.out.bre rfl
      have c5 : w2.cell? ⟨rb, 5, none⟩ = some (.slice da l.length dcap) := cell_of_heap Hm2.out.res rfl
      have hkb := (Hc2.out.block w.heap.size (lt_of_obj Hj.out.key) (by simp)).trans Hj.out.key
      have e0 := cell_of_heap hkb (i := 0) rfl
      have e1 := cell_of_heap hkb (i := 1) rfl
      have e2 := cell_of_heap hkb (i := 2) rfl
      have Hin := Lib.hid hin
      clear hin hkb
      go_wp2_with fail
      have f5 := frozen_of_heap Hm2.out.res (i := 5)
      obtain ⟨i0, hi0, hz0, hz1, hz2⟩ := info_parts Try.infoKey
      have Hi0 := Lib.hid hi0
      have Hz0 := Lib.hid hz0
      have Hz1 := Lib.hid hz1
      have Hz2 := Lib.hid hz2
      clear hi0 hz0 hz1 hz2
      refine wp_region_T (fun w' => w'.cell? ⟨cr, 0, none⟩ = some (.pointer (some ⟨rb, 0, none⟩)) ∧ w'.cell? ⟨rb, 5, none⟩ = some (.slice da l.length dcap) ∧ w'.cell? ⟨w.heap.size, 0, none⟩ = some (.int .i64 0) ∧ w'.cell? ⟨w.heap.size, 1, none⟩ = some (.int .i64 k2) ∧ w'.cell? ⟨w.heap.size, 2, none⟩ = some (.int .i64 k3)) 10 (by kernel_rfl) ?_
      intro wd hwd
      have hcd : Chg [] w2 wd := by rw [hwd]; exact (Chg.refl _ _).drew
      have Hwd := Lib.hid (Hm2.out.new hcd)
      have Hcj := Lib.hid (Hc2.out.trans hcd)
      have lcr : cr < wd.heap.size := Nat.lt_of_lt_of_le (lt_of_cell c0) hcd.size
      have lkey : w.heap.size < wd.heap.size := Nat.lt_of_lt_of_le (lt_of_cell e0) hcd.size
      have lrb2 : rb < wd.heap.size := Nat.lt_of_lt_of_le (lt_of_cell c5) hcd.size
      have hSW := And.intro ((hcd.cell (lt_of_cell c0) (by simp)).trans c0) (And.intro ((hcd.cell (lt_of_cell c5) (by simp)).trans c5) (And.intro ((hcd.cell (lt_of_cell e0) (by simp)).trans e0) (And.intro ((hcd.cell (lt_of_cell e1) (by simp)).trans e1) ((hcd.cell (lt_of_cell e2) (by simp)).trans e2))))
      have hfew := fin l Hwd.out.nd Hwd.out.kin
      have Hca := Lib.hid ((Chg.refl [] wd).alloc (.cells #[.int .i64 0, .int .i64 k2, .int .i64 k3] 43))
      clear hwd hcd c0 c5 e0 e1 e2 f5
      refine anyT_take (i := 0) (v := .pointer (some ⟨rb, 0, none⟩)) rfl (by kernel_rfl) (fun _ _ _ h => h) (Or.inl ⟨by rfl, fun w' hS => by go_simp⟩) hSW ?_
      simp only [Act.put, List.setIfInBounds_toArray, List.set_cons_zero, List.set_cons_succ]
      refine anyT_take (i := 1) (v := .pointer (some ⟨rb, 0, none⟩)) rfl (by kernel_rfl) (fun _ _ _ h => h) (Or.inl ⟨by rfl, fun w' hS => by go_simp⟩) hSW ?_
      simp only [Act.put, List.setIfInBounds_toArray, List.set_cons_zero, List.set_cons_succ]
      refine anyT_pure (i := 2) (v := .pointer (some ⟨rb, 0, none⟩)) rfl (by kernel_rfl) (fun _ _ _ h => h) (Or.inl ⟨by rfl, fun w' hS => by go_simp⟩) hSW ?_
      simp only [Act.put, List.setIfInBounds_toArray, List.set_cons_zero, List.set_cons_succ]
      refine anyT_pure (i := 3) (v := .pointer (some ⟨rb, 5, none⟩)) rfl (by kernel_rfl) (fun _ _ _ h => h) (Or.inl ⟨by rfl, fun w' hS => by go_simp⟩) hSW ?_
      simp only [Act.put, List.setIfInBounds_toArray, List.set_cons_zero, List.set_cons_succ]
      refine anyT_take (i := 4) (v := .slice da l.length dcap) rfl (by kernel_rfl) (fun _ _ _ h => h) (Or.inl ⟨by rfl, fun w' hS => by go_simp⟩) hSW ?_
      simp only [Act.put, List.setIfInBounds_toArray, List.set_cons_zero, List.set_cons_succ]
      refine anyT_take (i := 5) (v := .agg #[.int .i64 0, .int .i64 k2, .int .i64 k3]) rfl (by kernel_rfl) (fun _ _ _ h => h) (Or.inl ⟨by rfl, fun w' hS => by go_simp⟩) hSW ?_
      simp only [Act.put, List.setIfInBounds_toArray, List.set_cons_zero, List.set_cons_succ]
      refine anyT_one (k := 6) (by kernel_rfl) rfl (fun K hK => ?_)
      go_simp
      refine hK _ _ (fun _ => ?_) ?_
      · obtain ⟨s0, s1, s2, s3, s4⟩ := hSW
        exact ⟨(Hca.out.cell (lt_of_cell s0) (by simp)).trans s0, (Hca.out.cell (lt_of_cell s1) (by simp)).trans s1, (Hca.out.cell (lt_of_cell s2) (by simp)).trans s2, (Hca.out.cell (lt_of_cell s3) (by simp)).trans s3, (Hca.out.cell (lt_of_cell s4) (by simp)).trans s4⟩
      clear hK K
      refine anyT_one (k := 7) (by kernel_rfl) rfl (fun K hK => ?_)
      refine step_append_lies _ (by rfl) _ _ _ (by rfl) 0 43 i0 (.agg #[.int .i64 0, .int .i64 0, .int .i64 0]) 3 24 Try.underlying89 Hi0.out Hz0.out Hz1.out Hz2.out rfl (by omega) (.slice da l.length dcap) l.length (flat3 l) (by rfl) (Hwd.out.row.alloc _) ⟨wd.heap.size, 0, none⟩ 1 1 [.int .i64 0, .int .i64 k2, .int .i64 k3] (by rfl) (by rfl) (World.news_of_block (cs := #[.int .i64 0, .int .i64 k2, .int .i64 k3]) (t := 43) (fr := (0, 0)) (heap_alloc_new wd _)) (by simp [Value.oneCell']) (by omega) (by unfold maxLen; omega) (by omega) (Nat.zero_le _) (wd.heap.size + 1) (by simp) ?_
      intro gg cap8 w8 hown8 hgr8 hat8 hlt8
      have hc8 := ((ChgP.refl (fun g => g ∈ oblk da) wd).alloc (.cells #[.int .i64 0, .int .i64 k2, .int .i64 k3] 43)).grown hgr8 (fun k h => Or.inl (own_oblk h))
      have hat8' : ∀ g ∈ oblk (some (⟨gg, 0, none⟩ : Addr)), g ∈ oblk da ∨ wd.heap.size ≤ g := fun g hg => by
        obtain rfl : g = gg := by simpa [oblk] using hg
        exact hat8.elim (fun e => Or.inl (own_oblk e)) (fun e => Or.inr (by rw [e]; exact Nat.le_succ _))
      have hrb8 := (hc8.block rb lrb2 (fun h => (Hwd.out.arow _ h).2.2.2.2.2.1 rfl)).trans Hwd.out.res
      have r5 := cell_of_heap hrb8 (i := 5) rfl
      have fr5 := frozen_of_heap hrb8 (i := 5)
      have hpush := GAt.push Hwd.out Hk.out Hin.out hown8 hc8 hat8'
      have hj9 := ((Hcj.out.p (S := fun g => g ∈ oblk da ∨ g = rb)).trans (hc8.mono (fun _ h => Or.inl h))).setCell (p := ⟨rb, 5, none⟩) (Or.inl (Or.inr rfl)) (.slice (some ⟨gg, 0, none⟩) (l.length + 1) cap8)
      have Hpush := Lib.hid hpush
      have Hj9 := Lib.hid hj9
      have Hat8 := Lib.hid (fun g hg => (hat8' g hg).imp id fun h => Nat.le_trans Hcj.out.size h)
      have Hfree := Lib.hid (GFree.push HF.out.1 (fun g hg => Nat.lt_of_lt_of_le (HF.out.2 g hg) (Nat.le_trans Hj.out.chg.size Hcj.out.size)) hat8')
      have hS8 := And.intro ((hc8.cell (p := ⟨cr, 0, none⟩) lcr (fun h => (Hwd.out.arow _ h).2.2.2.2.1 rfl)).trans hSW.1) (And.intro r5 (And.intro ((hc8.cell (p := ⟨w.heap.size, 0, none⟩) lkey (fun h => Nat.lt_irrefl _ (Hold.out.2 _ h))).trans hSW.2.2.1) (And.intro ((hc8.cell (p := ⟨w.heap.size, 1, none⟩) lkey (fun h => Nat.lt_irrefl _ (Hold.out.2 _ h))).trans hSW.2.2.2.1) ((hc8.cell (p := ⟨w.heap.size, 2, none⟩) lkey (fun h => Nat.lt_irrefl _ (Hold.out.2 _ h))).trans hSW.2.2.2.2))))
      go_simp
      refine hK _ _ (fun _ => hS8) ?_
      clear hK K hown8 hgr8 hat8 hlt8 hc8 hat8' hrb8 hpush hj9 hSW
      refine anyT_one (k := 8) (by kernel_rfl) rfl (fun K hK => ?_)
      go_simp
      refine hK _ _ (fun _ => hS8) ?_
      clear hK K
      refine anyT_one (k := 9) (by kernel_rfl) rfl (fun K hK => ?_)
      go_simp
      refine hK _ _ (fun _ => hS8) ?_
      clear hK K
      refine anyT_one (k := 10) (by kernel_rfl) rfl (fun K hK => ?_)
      go_simp
      refine hK _ _ (fun h => by simp at h) ?_
      clear hK K
      refine anyT_done (by kernel_rfl) ?_
      go_wp2_with fail
      obtain ⟨w9, hw9⟩ : ∃ x, x = w8.setCell ⟨rb, 5, none⟩ (.slice (some ⟨gg, 0, none⟩) (l.length + 1) cap8) := ⟨_, rfl⟩
      rw [← hw9] at Hpush Hj9 ⊢
      clear hw9 r5 fr5
      have c0 : w9.cell? ⟨cr, 0, none⟩ = some (.pointer (some ⟨rb, 0, none⟩)) := cell_of_heap Hpush.out.bre rfl
      have c4 : w9.cell? ⟨rb, 4, none⟩ = some (.int .i64 u) := cell_of_heap Hpush.out.res rfl
      have f4 := frozen_of_heap Hpush.out.res (i := 4)
      refine wp_region_reads 7 (by kernel_rfl) (by kernel_rfl) ?_
      intro we hwe
      simp only [List.take_succ_cons, List.take_zero, List.drop_succ_cons, List.drop_zero]
      have hcd : Chg [] w9 we := by rw [hwe]; exact (Chg.refl _ _).drew
      have c0e := (hcd.cell (lt_of_cell c0) (by simp)).trans c0
      have c4e := (hcd.cell (lt_of_cell c4) (by simp)).trans c4
      have f4e := (hcd.frozen (p := ⟨rb, 4, none⟩) (lt_of_cell c4) (by simp)).trans f4
      have hcj : ChgP (fun g => g ∈ oblk da ∨ g = rb) wj we := Hj9.out.trans hcd.p
      have hob := (hcj.block (w.heap.size + 1) (lt_of_obj Hj.out.out) (fun h => h.elim (fun h => by have := Hold.out.2 _ h; omega) (fun h => by omega))).trans Hj.out.out
      have v0 := (hcj.cell (p := ⟨w.heap.size + 1 + 1, 0, none⟩) (lt_of_obj Hj.out.val) (fun h => h.elim (fun h => by have := Hold.out.2 _ h; simp only at this; omega) (fun h => by simp only at h; omega))).trans (cell_of_heap Hj.out.val (i := 0) rfl)
      have v1 := (hcj.cell (p := ⟨w.heap.size + 1 + 1, 1, none⟩) (lt_of_obj Hj.out.val) (fun h => h.elim (fun h => by have := Hold.out.2 _ h; simp only at this; omega) (fun h => by simp only at h; omega))).trans (cell_of_heap Hj.out.val (i := 1) rfl)
      have o0 := cell_of_heap hob (i := 0) rfl
      have o1 := cell_of_heap hob (i := 1) rfl
      have of0 := frozen_of_heap hob (i := 0)
      have of1 := frozen_of_heap hob (i := 1)
      have Hwe := Lib.hid (Hpush.out.new hcd)
      have Hcj' := Lib.hid hcj
      clear hwe c0 c4 f4 hcj hob hcd
      repeat still_step
      refine wpStill_nil ?_
      go_wp2_with fail
      refine bodyPost_ret (v := .agg #[.slice a1 iv.xs.length c1, .string ⟨#[]⟩]) (by simp [results, Try.results107, go_sem, o0, o1]) rfl ?_
      exact gend Hget.out Hj.out Hwe.out.dur Hfree.out Hat8.out (Hcj'.out.setCell (Or.inl (Or.inr rfl)) _) Hg.out.next.chg.size Hvm.out.1 Hvm.out.2 (fun g hg => GI.ro ⟨d, da, dcap, Hg.out, HF.out⟩ g hg)
  · have b0 : (k1 == 0) = false := by simpa using h0
    have Hcall := Lib.hid (fun w' (hw : Chg [] w w') => fam.call w' d (k1, k2, k3) (Hg.out.env.new hw) (Hg.out.next.comp.trans hcs.1) (Hg.out.next.stop.trans hcs.2) (Hkk.out.2 h0))
    have Herr := Lib.hid (fun x s' (e : U d.pl (k1, k2, k3) = (.error x, s')) => (show getP U (d.pl, l, u) (k1, k2, k3) = (.error x, (s', l, u)) by unfold getP; rw [if_neg h0, e]))
    have Hok := Lib.hid (fun y s' (e : U d.pl (k1, k2, k3) = (.ok y, s')) => (show getP U (d.pl, l, u) (k1, k2, k3) = (.ok (s'.res (k1, k2, k3)).xs, (s', addK l (k1, k2, k3), min u (s'.res (k1, k2, k3)).dur)) by unfold getP; rw [if_neg h0, e]))
    have Hks := Lib.hid (fun s' y (e : U d.pl (k1, k2, k3) = (y, s')) => (show ∀ k', Kk k' → Inp.QKok k' ∧ (k'.1 ≠ 0 → K s' k') from fun k' hk' => ⟨(Hg.out.ks k' hk').1, fun h1 => by
      have := fam.keep d.pl (k1, k2, k3) k' (Hkk.out.2 h0) ((Hg.out.ks k' hk').2 h1)
      rwa [e] at this⟩))
    have Hca := Lib.hid (show Chg [] w (((w.alloc (.cells #[.int .i64 k1, .int .i64 k2, .int .i64 k3] 43)).alloc (.cells #[.slice none 0 0, .string ⟨#[]⟩] 39)).alloc (.cells #[.slice none 0 0, .string ⟨#[]⟩] 39)) from (((Chg.refl [] w).alloc _).alloc _).alloc _)
    clear h0
    unfold i3v at Hcall ⊢
    go_enter Try.func107, Try.ntmps107
    go_wp2_with fail
    refine (Hcall.out _ Hca.out).mono ?_
    rintro e w1 hp
    rcases hu : U d.pl (k1, k2, k3) with ⟨x | y, s'⟩
    · obtain ⟨d', rfl, hn, rfl⟩ := hp.err hu
      have hfin : VPost (GI w0 RO b K Kk ws ds cdb cr rb ver) (GRO RO cdb cr) (getP U) ch F (d.pl, l, u) (k1, k2, k3) w (.panicked (ch x)) w1 := by
        unfold VPost
        rw [Herr.out _ _ hu]
        refine ⟨rfl, ⟨d', da, dcap, (Hg.out.new Hca.out).go hn (Hks.out _ _ hu), GFree.go (Hg.out.new Hca.out) HF.out.1 (fun g hg => Nat.lt_of_lt_of_le (HF.out.2 g hg) Hca.out.size) hn, fun g hg => ?_⟩, (Hca.out.p (S := fun g => ¬ F g ∧ ¬ GRO RO cdb cr g)).comp hn.chg fun g hg => Or.inl (Hg.out.chg HF.out.1 g (Or.inl hg))⟩
        exact Nat.lt_of_lt_of_le (HF.out.2 g hg) (Nat.le_trans Hca.out.size hn.chg.size)
      have Hfin := Lib.hid hfin
      clear hfin hu hp hn
      go_wp2
      exact ⟨rfl, Hfin.out⟩
    · obtain ⟨d', r, rfl, hn, rfl, hr⟩ := hp.ok hu
      have hrs := hn.mem.rs hr
      have r0 : w1.cell? ⟨r.blk, 0, none⟩ = some (.slice r.a r.xs.length r.cap) := cell_of_heap hrs.blk rfl
      have r1 : w1.cell? ⟨r.blk, 1, none⟩ = some (.string ⟨#[]⟩) := cell_of_heap hrs.blk rfl
      have r4 : w1.cell? ⟨r.blk, 4, none⟩ = some (.int .i64 r.dur) := cell_of_heap hrs.blk rfl
      have lr : r.blk < w1.heap.size := lt_of_cell r0
      have hm := Hg.out.env.mem
      have z3 : (((w.alloc (.cells #[.int .i64 k1, .int .i64 k2, .int .i64 k3] 43)).alloc (.cells #[.slice none 0 0, .string ⟨#[]⟩] 39)).alloc (.cells #[.slice none 0 0, .string ⟨#[]⟩] 39)).heap.size = w.heap.size + 3 := by simp
      have hno : ∀ g, w.heap.size ≤ g → g < w.heap.size + 3 → w1.heap[g]? = (((w.alloc (.cells #[.int .i64 k1, .int .i64 k2, .int .i64 k3] 43)).alloc (.cells #[.slice none 0 0, .string ⟨#[]⟩] 39)).alloc (.cells #[.slice none 0 0, .string ⟨#[]⟩] 39)).heap[g]? ∧ g ∉ d'.muts b ∧ g ∉ d'.imms := fun g h1 h2 => by
        have := hn.other (g := g) (by omega) (fun h => by have := hm.lt _ h; omega)
        exact ⟨this.1, this.2.1, fun h => (hn.imms g h).elim (fun h => by have := hm.bound _ h; omega) fun h => by omega⟩
      have B0 := (hno w.heap.size (by omega) (by omega)).1.trans ((heap_past _ _ _ (by first | (simp; done) | (simp; omega))).trans ((heap_past _ _ _ (by first | (simp; done) | (simp; omega))).trans (heap_at _ _ _ rfl)))
      have B1 := (hno (w.heap.size + 1) (by omega) (by omega)).1.trans ((heap_past _ _ _ (by first | (simp; done) | (simp; omega))).trans (heap_at _ _ _ (by simp)))
      have B2 := (hno (w.heap.size + 1 + 1) (by omega) (by omega)).1.trans (heap_at _ _ _ (by simp))
      have v0 := cell_of_heap B2 (i := 0) rfl
      have v1 := cell_of_heap B2 (i := 1) rfl
      have fv0 := frozen_of_heap B2 (i := 0)
      have fv1 := frozen_of_heap B2 (i := 1)
      have lz : w.heap.size + 2 < w1.heap.size := by have := hn.chg.size; omega
      have Hget := Lib.hid (show getP U (d.pl, l, u) (k1, k2, k3) = (.ok r.xs, (d'.pl, addK l (k1, k2, k3), min u r.dur)) by have := Hok.out _ _ hu; rw [Dm.res_pl hr] at this; exact this)
      have Hga := Lib.hid ((Hg.out.new Hca.out).go hn (Hks.out _ _ hu))
      have Hgf := Lib.hid (GFree.go (Hg.out.new Hca.out) HF.out.1 (fun g hg => Nat.lt_of_lt_of_le (HF.out.2 g hg) Hca.out.size) hn)
      have Hch := Lib.hid ((Hca.out.p (S := fun g => ¬ F g ∧ ¬ GRO RO cdb cr g)).comp hn.chg fun g hg => Or.inl (Hg.out.chg HF.out.1 g (Or.inl hg)))
      have Hvm := Lib.hid (show w.heap.size + 1 ∉ d'.muts b ∧ w.heap.size + 1 ∉ d'.imms from (hno (w.heap.size + 1) (by omega) (by omega)).2)
      have Hv2 := Lib.hid (hno (w.heap.size + 1 + 1) (by omega) (by omega)).2
      have Hrs := Lib.hid hrs
      have HB := Lib.hid (And.intro B0 (And.intro B1 B2))
      clear hp hn hu hr hrs hno hm z3 B0 B1 B2
      unfold Rs.val
      go_wp2_with fail
      go_region_held3 (fun w' => w'.cell? ⟨r.blk, 0, none⟩ = some (.slice r.a r.xs.length r.cap) ∧ w'.cell? ⟨r.blk, 1, none⟩ = some (.string ⟨#[]⟩) ∧ w'.cell? ⟨r.blk, 4, none⟩ = some (.int .i64 r.dur))
        (first | (go_keep; done) | (refine ⟨?_, ?_, ?_⟩ <;> (simp [go_sem, *]; done)))
        ((go_at_call 76; refine (Inp.memoClone _ _ _ r.xs (Hrs.out.nums.same (by exact (Chg.refl [] w1).drew)) Hrs.out.size).mono ?_; rintro e w3 ⟨a1, c1, rfl, hi1, hn1, hc1⟩; have s0 := (hc1.cell (p := ⟨r.blk, 0, none⟩) lr (by simp)).trans r0; have s1 := (hc1.cell (p := ⟨r.blk, 1, none⟩) lr (by simp)).trans r1; have s4 := (hc1.cell (p := ⟨r.blk, 4, none⟩) lr (by simp)).trans r4; have x0 := (hc1.cell (p := ⟨w.heap.size + 1 + 1, 0, none⟩) (lt_of_cell v0) (by simp)).trans v0; have x1 := (hc1.cell (p := ⟨w.heap.size + 1 + 1, 1, none⟩) (lt_of_cell v1) (by simp)).trans v1; have y0 := (hc1.frozen (p := ⟨w.heap.size + 1 + 1, 0, none⟩) (lt_of_cell v0) (by simp)).trans fv0; have y1 := (hc1.frozen (p := ⟨w.heap.size + 1 + 1, 1, none⟩) (lt_of_cell v1) (by simp)).trans fv1; have hcw : Chg [] w1 w3 := (Chg.refl [] w1).drew.new hc1; have lbv : r.blk ≠ w.heap.size + 1 + 1 := (fun e => absurd (Hrs.out.blk.symm.trans (e ▸ HB.out.2.2)) (by simp))))
      go_wp2_with fail
      have hj := gjoin (k := (k1, k2, k3)) (Hga.out.new hcw) Hgf.out HF.out.2 Hold.out Hg.out.next.chg.size Hv2.out.1 Hv2.out.2 (fun g hg => GI.ro ⟨d, da, dcap, Hg.out, HF.out⟩ g hg) ((hcw.block _ (lt_of_obj HB.out.1) (by simp)).trans HB.out.1) ((hcw.block _ (lt_of_obj HB.out.2.1) (by simp)).trans HB.out.2.1) ((hcw.block _ (lt_of_obj HB.out.2.2) (by simp)).trans HB.out.2.2) hi1 (fun ad ha => by have := hn1 ad ha; have e : w1.drew.heap.size = w1.heap.size := rfl; omega) Hrs.out.size (Hch.out.trans hcw.p)
      obtain ⟨wj, hwj⟩ : ∃ x, x = (w3.setCell ⟨w.heap.size + 1 + 1, 0, none⟩ (.slice a1 r.xs.length c1)).setCell ⟨w.heap.size + 1 + 1, 1, none⟩ (.string ⟨#[]⟩) := ⟨_, rfl⟩
      rw [← hwj] at hj ⊢
      have Hj := Lib.hid hj
      clear hj hwj hi1 hn1 hc1 hcw s0 s1 s4 x0 x1 y0 y1 lbv r0 r1 r4 v0 v1 fv0 fv1 lr lz
      have c0 : wj.cell? ⟨cr, 0, none⟩ = some (.pointer (some ⟨rb, 0, none⟩)) := cell_of_heap Hj.out.mem.bre rfl
      have c1' : wj.cell? ⟨rb, 5, none⟩ = some (.slice da l.length dcap) := cell_of_heap Hj.out.mem.res rfl
      have e0 := cell_of_heap Hj.out.key (i := 0) rfl
      have e1 := cell_of_heap Hj.out.key (i := 1) rfl
      have e2 := cell_of_heap Hj.out.key (i := 2) rfl
      refine wp_region_reads 5 (by kernel_rfl) (by kernel_rfl) ?_
      intro wd hwd
      simp only [List.take_succ_cons, List.take_zero, List.drop_succ_cons, List.drop_zero]
      have hcd : Chg [] wj wd := by rw [hwd]; exact (Chg.refl _ _).drew
      have c0d := (hcd.cell (lt_of_cell c0) (by simp)).trans c0
      have c1d := (hcd.cell (lt_of_cell c1') (by simp)).trans c1'
      have e0d := (hcd.cell (lt_of_cell e0) (by simp)).trans e0
      have e1d := (hcd.cell (lt_of_cell e1) (by simp)).trans e1
      have e2d := (hcd.cell (lt_of_cell e2) (by simp)).trans e2
      have Hcon := Lib.hid (keyContains_any _ wd _ l (k1, k2, k3) (i3s_of_own (Hj.out.mem.new hcd).row) (fun g hg => ((Hj.out.mem.new hcd).row.lt g hg).2))
      clear hwd c0 c1' e0 e1 e2
      simp only at e0d e1d e2d
      repeat still_step
      refine wpStill_nil ?_
      go_wp2_with fail
      refine Hcon.out.mono ?_
      rintro e w2 ⟨rfl, cc2⟩
      have hc2 := hcd.trans cc2
      have Hm2 := Lib.hid (Hj.out.mem.new hc2)
      have Hc2 := Lib.hid hc2
      clear hc2 cc2 c0d c1d e0d e1d e2d hcd
      by_cases hin : (k1, k2, k3) ∈ l
      · rw [decide_eq_true hin]
        have c0 : w2.cell? ⟨cr, 0, none⟩ = some (.pointer (some ⟨rb, 0, none⟩)) := cell_of_heap Hm2.out.bre rfl
        have c4 : w2.cell? ⟨rb, 4, none⟩ = some (.int .i64 u) := cell_of_heap Hm2.out.res rfl
        have f4 := frozen_of_heap Hm2.out.res (i := 4)
        go_wp2_with fail
        refine wp_region_reads 7 (by kernel_rfl) (by kernel_rfl) ?_
        intro wd hwd
        simp only [List.take_succ_cons, List.take_zero, List.drop_succ_cons, List.drop_zero]
        have hcd : Chg [] w2 wd := by rw [hwd]; exact (Chg.refl _ _).drew
        have c0d := (hcd.cell (lt_of_cell c0) (by simp)).trans c0
        have c4d := (hcd.cell (lt_of_cell c4) (by simp)).trans c4
        have f4d := (hcd.frozen (p := ⟨rb, 4, none⟩) (lt_of_cell c4) (by simp)).trans f4
        have hcj : ChgP (fun g => g ∈ oblk da ∨ g = rb) wj wd := (Hc2.out.trans hcd).p
        have v0 := (hcj.cell (p := ⟨w.heap.size + 1 + 1, 0, none⟩) (lt_of_obj Hj.out.val) (fun h => h.elim (fun h => by have := Hold.out.2 _ h; simp only at this; omega) (fun h => by simp only at h; omega))).trans (cell_of_heap Hj.out.val (i := 0) rfl)
        have v1 := (hcj.cell (p := ⟨w.heap.size + 1 + 1, 1, none⟩) (lt_of_obj Hj.out.val) (fun h => h.elim (fun h => by have := Hold.out.2 _ h; simp only at this; omega) (fun h => by simp only at h; omega))).trans (cell_of_heap Hj.out.val (i := 1) rfl)
        have hob := (hcj.block (w.heap.size + 1) (lt_of_obj Hj.out.out) (fun h => h.elim (fun h => by have := Hold.out.2 _ h; omega) (fun h => by omega))).trans Hj.out.out
        have o0 := cell_of_heap hob (i := 0) rfl
        have o1 := cell_of_heap hob (i := 1) rfl
        have of0 := frozen_of_heap hob (i := 0)
        have of1 := frozen_of_heap hob (i := 1)
        have Hwd := Lib.hid (Hm2.out.new hcd)
        have Hcj := Lib.hid hcj
        clear hwd c0 c4 f4 hcj hob hcd
        repeat still_step
        refine wpStill_nil ?_
        go_wp2_with fail
        refine bodyPost_ret (v := .agg #[.slice a1 r.xs.length c1, .string ⟨#[]⟩]) (by simp [results, Try.results107, go_sem, o0, o1]) rfl ?_
        exact gend (by rw [Hget.out]; simp only [addK, if_pos hin]) Hj.out Hwd.out.dur Hgf.out (fun g hg => Or.inl hg) (Hcj.out.setCell (Or.inl (Or.inr rfl)) _) Hg.out.next.chg.size Hvm.out.1 Hvm.out.2 (fun g hg => GI.ro ⟨d, da, dcap, Hg.out, HF.out⟩ g hg)
      · rw [decide_eq_false hin]
        have c0 : w2.cell? ⟨cr, 0, none⟩ = some (.pointer (some ⟨rb, 0, none⟩)) := cell_of_heap Hm2.out.bre rfl
        have c5 : w2.cell? ⟨rb, 5, none⟩ = some (.slice da l.length dcap) := cell_of_heap Hm2.out.res rfl
        have hkb := (Hc2.out.block w.heap.size (lt_of_obj Hj.out.key) (by simp)).trans Hj.out.key
        have e0 := cell_of_heap hkb (i := 0) rfl
        have e1 := cell_of_heap hkb (i := 1) rfl
        have e2 := cell_of_heap hkb (i := 2) rfl
        have Hin := Lib.hid hin
        clear hin hkb
        go_wp2_with fail
        have f5 := frozen_of_heap Hm2.out.res (i := 5)
        obtain ⟨i0, hi0, hz0, hz1, hz2⟩ := info_parts Try.infoKey
        have Hi0 := Lib.hid hi0
        have Hz0 := Lib.hid hz0
        have Hz1 := Lib.hid hz1
        have Hz2 := Lib.hid hz2
        clear hi0 hz0 hz1 hz2
        refine wp_region_T (fun w' => w'.cell? ⟨cr, 0, none⟩ = some (.pointer (some ⟨rb, 0, none⟩)) ∧ w'.cell? ⟨rb, 5, none⟩ = some (.slice da l.length dcap) ∧ w'.cell? ⟨w.heap.size, 0, none⟩ = some (.int .i64 k1) ∧ w'.cell? ⟨w.heap.size, 1, none⟩ = some (.int .i64 k2) ∧ w'.cell? ⟨w.heap.size, 2, none⟩ = some (.int .i64 k3)) 10 (by kernel_rfl) ?_
        intro wd hwd
        have hcd : Chg [] w2 wd := by rw [hwd]; exact (Chg.refl _ _).drew
        have Hwd := Lib.hid (Hm2.out.new hcd)
        have Hcj := Lib.hid (Hc2.out.trans hcd)
        have lcr : cr < wd.heap.size := Nat.lt_of_lt_of_le (lt_of_cell c0) hcd.size
        have lkey : w.heap.size < wd.heap.size := Nat.lt_of_lt_of_le (lt_of_cell e0) hcd.size
        have lrb2 : rb < wd.heap.size := Nat.lt_of_lt_of_le (lt_of_cell c5) hcd.size
        have hSW := And.intro ((hcd.cell (lt_of_cell c0) (by simp)).trans c0) (And.intro ((hcd.cell (lt_of_cell c5) (by simp)).trans c5) (And.intro ((hcd.cell (lt_of_cell e0) (by simp)).trans e0) (And.intro ((hcd.cell (lt_of_cell e1) (by simp)).trans e1) ((hcd.cell (lt_of_cell e2) (by simp)).trans e2))))
        have hfew := fin l Hwd.out.nd Hwd.out.kin
        have Hca := Lib.hid ((Chg.refl [] wd).alloc (.cells #[.int .i64 k1, .int .i64 k2, .int .i64 k3] 43))
        clear hwd hcd c0 c5 e0 e1 e2 f5
        refine anyT_take (i := 0) (v := .pointer (some ⟨rb, 0, none⟩)) rfl (by kernel_rfl) (fun _ _ _ h => h) (Or.inl ⟨by rfl, fun w' hS => by go_simp⟩) hSW ?_
        simp only [Act.put, List.setIfInBounds_toArray, List.set_cons_zero, List.set_cons_succ]
        refine anyT_take (i := 1) (v := .pointer (some ⟨rb, 0, none⟩)) rfl (by kernel_rfl) (fun _ _ _ h => h) (Or.inl ⟨by rfl, fun w' hS => by go_simp⟩) hSW ?_
        simp only [Act.put, List.setIfInBounds_toArray, List.set_cons_zero, List.set_cons_succ]
        refine anyT_pure (i := 2) (v := .pointer (some ⟨rb, 0, none⟩)) rfl (by kernel_rfl) (fun _ _ _ h => h) (Or.inl ⟨by rfl, fun w' hS => by go_simp⟩) hSW ?_
        simp only [Act.put, List.setIfInBounds_toArray, List.set_cons_zero, List.set_cons_succ]
        refine anyT_pure (i := 3) (v := .pointer (some ⟨rb, 5, none⟩)) rfl (by kernel_rfl) (fun _ _ _ h => h) (Or.inl ⟨by rfl, fun w' hS => by go_simp⟩) hSW ?_
        simp only [Act.put, List.setIfInBounds_toArray, List.set_cons_zero, List.set_cons_succ]
        refine anyT_take (i := 4) (v := .slice da l.length dcap) rfl (by kernel_rfl) (fun _ _ _ h => h) (Or.inl ⟨by rfl, fun w' hS => by go_simp⟩) hSW ?_
        simp only [Act.put, List.setIfInBounds_toArray, List.set_cons_zero, List.set_cons_succ]
        refine anyT_take (i := 5) (v := .agg #[.int .i64 k1, .int .i64 k2, .int .i64 k3]) rfl (by kernel_rfl) (fun _ _ _ h => h) (Or.inl ⟨by rfl, fun w' hS => by go_simp⟩) hSW ?_
        simp only [Act.put, List.setIfInBounds_toArray, List.set_cons_zero, List.set_cons_succ]
        refine anyT_one (k := 6) (by kernel_rfl) rfl (fun K hK => ?_)
        go_simp
        refine hK _ _ (fun _ => ?_) ?_
        · obtain ⟨s0, s1, s2, s3, s4⟩ := hSW
          exact ⟨(Hca.out.cell (lt_of_cell s0) (by simp)).trans s0, (Hca.out.cell (lt_of_cell s1) (by simp)).trans s1, (Hca.out.cell (lt_of_cell s2) (by simp)).trans s2, (Hca.out.cell (lt_of_cell s3) (by simp)).trans s3, (Hca.out.cell (lt_of_cell s4) (by simp)).trans s4⟩
        clear hK K
        refine anyT_one (k := 7) (by kernel_rfl) rfl (fun K hK => ?_)
        refine step_append_lies _ (by rfl) _ _ _ (by rfl) 0 43 i0 (.agg #[.int .i64 0, .int .i64 0, .int .i64 0]) 3 24 Try.underlying89 Hi0.out Hz0.out Hz1.out Hz2.out rfl (by omega) (.slice da l.length dcap) l.length (flat3 l) (by rfl) (Hwd.out.row.alloc _) ⟨wd.heap.size, 0, none⟩ 1 1 [.int .i64 k1, .int .i64 k2, .int .i64 k3] (by rfl) (by rfl) (World.news_of_block (cs := #[.int .i64 k1, .int .i64 k2, .int .i64 k3]) (t := 43) (fr := (0, 0)) (heap_alloc_new wd _)) (by simp [Value.oneCell']) (by omega) (by unfold maxLen; omega) (by omega) (Nat.zero_le _) (wd.heap.size + 1) (by simp) ?_
        intro gg cap8 w8 hown8 hgr8 hat8 hlt8
        have hc8 := ((ChgP.refl (fun g => g ∈ oblk da) wd).alloc (.cells #[.int .i64 k1, .int .i64 k2, .int .i64 k3] 43)).grown hgr8 (fun k h => Or.inl (own_oblk h))
        have hat8' : ∀ g ∈ oblk (some (⟨gg, 0, none⟩ : Addr)), g ∈ oblk da ∨ wd.heap.size ≤ g := fun g hg => by
          obtain rfl : g = gg := by simpa [oblk] using hg
          exact hat8.elim (fun e => Or.inl (own_oblk e)) (fun e => Or.inr (by rw [e]; exact Nat.le_succ _))
        have hrb8 := (hc8.block rb lrb2 (fun h => (Hwd.out.arow _ h).2.2.2.2.2.1 rfl)).trans Hwd.out.res
        have r5 := cell_of_heap hrb8 (i := 5) rfl
        have fr5 := frozen_of_heap hrb8 (i := 5)
        have hpush := GAt.push Hwd.out Hk.out Hin.out hown8 hc8 hat8'
        have hj9 := ((Hcj.out.p (S := fun g => g ∈ oblk da ∨ g = rb)).trans (hc8.mono (fun _ h => Or.inl h))).setCell (p := ⟨rb, 5, none⟩) (Or.inl (Or.inr rfl)) (.slice (some ⟨gg, 0, none⟩) (l.length + 1) cap8)
        have Hpush := Lib.hid hpush
        have Hj9 := Lib.hid hj9
        have Hat8 := Lib.hid (fun g hg => (hat8' g hg).imp id fun h => Nat.le_trans Hcj.out.size h)
        have Hfree := Lib.hid (GFree.push Hgf.out (fun g hg => Nat.lt_of_lt_of_le (HF.out.2 g hg) (Nat.le_trans Hj.out.chg.size Hcj.out.size)) hat8')
        have hS8 := And.intro ((hc8.cell (p := ⟨cr, 0, none⟩) lcr (fun h => (Hwd.out.arow _ h).2.2.2.2.1 rfl)).trans hSW.1) (And.intro r5 (And.intro ((hc8.cell (p := ⟨w.heap.size, 0, none⟩) lkey (fun h => Nat.lt_irrefl _ (Hold.out.2 _ h))).trans hSW.2.2.1) (And.intro ((hc8.cell (p := ⟨w.heap.size, 1, none⟩) lkey (fun h => Nat.lt_irrefl _ (Hold.out.2 _ h))).trans hSW.2.2.2.1) ((hc8.cell (p := ⟨w.heap.size, 2, none⟩) lkey (fun h => Nat.lt_irrefl _ (Hold.out.2 _ h))).trans hSW.2.2.2.2))))
        go_simp
        refine hK _ _ (fun _ => hS8) ?_
        clear hK K hown8 hgr8 hat8 hlt8 hc8 hat8' hrb8 hpush hj9 hSW
        refine anyT_one (k := 8) (by kernel_rfl) rfl (fun K hK => ?_)
        go_simp
        refine hK _ _ (fun _ => hS8) ?_
        clear hK K
        refine anyT_one (k := 9) (by kernel_rfl) rfl (fun K hK => ?_)
        go_simp
        refine hK _ _ (fun _ => hS8) ?_
        clear hK K
        refine anyT_one (k := 10) (by kernel_rfl) rfl (fun K hK => ?_)
        go_simp
        refine hK _ _ (fun h => by simp at h) ?_
        clear hK K
        refine anyT_done (by kernel_rfl) ?_
        go_wp2_with fail
        obtain ⟨w9, hw9⟩ : ∃ x, x = w8.setCell ⟨rb, 5, none⟩ (.slice (some ⟨gg, 0, none⟩) (l.length + 1) cap8) := ⟨_, rfl⟩
        rw [← hw9] at Hpush Hj9 ⊢
        clear hw9 r5 fr5
        have c0 : w9.cell? ⟨cr, 0, none⟩ = some (.pointer (some ⟨rb, 0, none⟩)) := cell_of_heap Hpush.out.bre rfl
        have c4 : w9.cell? ⟨rb, 4, none⟩ = some (.int .i64 u) := cell_of_heap Hpush.out.res rfl
        have f4 := frozen_of_heap Hpush.out.res (i := 4)
        refine wp_region_reads 7 (by kernel_rfl) (by kernel_rfl) ?_
        intro we hwe
        simp only [List.take_succ_cons, List.take_zero, List.drop_succ_cons, List.drop_zero]
        have hcd : Chg [] w9 we := by rw [hwe]; exact (Chg.refl _ _).drew
        have c0e := (hcd.cell (lt_of_cell c0) (by simp)).trans c0
        have c4e := (hcd.cell (lt_of_cell c4) (by simp)).trans c4
        have f4e := (hcd.frozen (p := ⟨rb, 4, none⟩) (lt_of_cell c4) (by simp)).trans f4
        have hcj : ChgP (fun g => g ∈ oblk da ∨ g = rb) wj we := Hj9.out.trans hcd.p
        have hob := (hcj.block (w.heap.size + 1) (lt_of_obj Hj.out.out) (fun h => h.elim (fun h => by have := Hold.out.2 _ h; omega) (fun h => by omega))).trans Hj.out.out
        have v0 := (hcj.cell (p := ⟨w.heap.size + 1 + 1, 0, none⟩) (lt_of_obj Hj.out.val) (fun h => h.elim (fun h => by have := Hold.out.2 _ h; simp only at this; omega) (fun h => by simp only at h; omega))).trans (cell_of_heap Hj.out.val (i := 0) rfl)
        have v1 := (hcj.cell (p := ⟨w.heap.size + 1 + 1, 1, none⟩) (lt_of_obj Hj.out.val) (fun h => h.elim (fun h => by have := Hold.out.2 _ h; simp only at this; omega) (fun h => by simp only at h; omega))).trans (cell_of_heap Hj.out.val (i := 1) rfl)
        have o0 := cell_of_heap hob (i := 0) rfl
        have o1 := cell_of_heap hob (i := 1) rfl
        have of0 := frozen_of_heap hob (i := 0)
        have of1 := frozen_of_heap hob (i := 1)
        have Hwe := Lib.hid (Hpush.out.new hcd)
        have Hcj' := Lib.hid hcj
        clear hwe c0 c4 f4 hcj hob hcd
        repeat still_step
        refine wpStill_nil ?_
        go_wp2_with fail
        refine bodyPost_ret (v := .agg #[.slice a1 r.xs.length c1, .string ⟨#[]⟩]) (by simp [results, Try.results107, go_sem, o0, o1]) rfl ?_
        exact gend Hget.out Hj.out Hwe.out.dur Hfree.out Hat8.out (Hcj'.out.setCell (Or.inl (Or.inr rfl)) _) Hg.out.next.chg.size Hvm.out.1 Hvm.out.2 (fun g hg => GI.ro ⟨d, da, dcap, Hg.out, HF.out⟩ g hg)
end
end Go.Proofs.Ytggiddhhbilcjaa
/- recompute: what it is given, what it leaves. -/
namespace Go.Proofs.Ytggiddhhbilcjaa
open Go.RowKit Go.ChangeMaps Go.MapKept
set_option linter.unusedVariables false
set_option linter.unusedSimpArgs false
/-- what compute brings -/
def CPost {σ : Type} (I : (Nat → Prop) → σ → World → Prop) (RO : Nat → Prop) (ch : Int → List PanicEntry) (F : Nat → Prop) (res : Except Int (List Int) × σ) (w : World) (e : Ending) (w' : World) : Prop :=
  (match res.1 with
    | .ok xs => ∃ a c, e = .returned (.agg #[.slice a xs.length c, .string ⟨#[]⟩]) ∧ Inp.Ints w' (.slice a xs.length c) xs ∧ xs.length * 8 ≤ 140737488355328
    | .error x => e = .panicked (ch x)) ∧ I F res.2 w' ∧ ChgP (fun b => ¬ F b ∧ ¬ RO b) w w'
/-- a compute function -/
structure CFam (w0 : World) (RO : Nat → Prop) (f : Nat) (caps : Array Value) (C : QK → (GS → QK → Except Int (List Int) × GS) → GS → Except Int (List Int) × GS) (ch : Int → List PanicEntry) (Kc : QK → Prop) (Kk : QK → QK → Prop) : Prop where
  enter : ∀ args w, (callFunc f args).run Try.prog w = .ok (.enter f args) w
  call : ∀ (fn : Nat) (gcaps : Array Value) (I : (Nat → Prop) → GS → World → Prop) (RO' : Nat → Prop) (G : GS → QK → Except Int (List Int) × GS) (F : Nat → Prop) (s : GS) (w : World) (key : QK), VFam fn gcaps I RO' G ch (Kk key) → Kc key → I F s w → (∀ g, RO g → RO' g) → (∀ g, RO g → w.heap[g]? = w0.heap[g]?) →
    Calls Try.prog f (#[i3v key, .func (.func fn) #[] gcaps] ++ caps) w (CPost I RO' ch F (C key G s) w)
/-- a stop function that is no nil -/
structure SFam (w0 : World) (RO : Nat → Prop) (b : Nat) (f : Nat) (first caps : Array Value) (sb : PS → Bool) : Prop where
  enter : ∀ args w, (callFunc f args).run Try.prog w = .ok (.enter f args) w
  call : ∀ w d, Env w0 RO b w d → Calls Try.prog f (first ++ caps) w fun e w' => e = .returned (.bool (sb d.pl)) ∧ Chg [] w w'
/-- the panic's entries -/
def chI (x : Int) : List PanicEntry := [{ v := .iface 150 (.agg #[.int .i64 x]), recovered := false }]
section
variable {w0 : World} {RO : Nat → Prop} {b : Nat} {comp stop : Value} {K : PS → QK → Prop} {Kk : QK → Prop} {U : PS → QK → Except Int Unit × PS} {ch : Int → List PanicEntry} {ws : World} {ds : Dm} {cdb cr rb : Nat} {ver : Int}
theorem enterGet (args : Array Value) (w : World) : (callFunc 107 args).run Try.prog w = .ok (.enter 107 args) w := by go_simp
theorem rget_fam (fam : UFam w0 RO b comp stop K U ch) (hcs : ds.comp = comp ∧ ds.stop = stop) (fin : ∀ l : List QK, l.Nodup → (∀ k ∈ l, Kk k) → l.length ≤ 1000) :
    VFam 107 #[.pointer (some ⟨cdb, 0, none⟩), .pointer (some ⟨cr, 0, none⟩)] (GI w0 RO b K Kk ws ds cdb cr rb ver) (GRO RO cdb cr) (getP U) ch Kk :=
  ⟨enterGet, fun h hc => h.keep hc, fun h hF => h.anti hF, fun h => h.ro, fun F s w k hk hI => rget_any fam hcs fin F s w k hk hI⟩
/-- the result is noted, the count goes on -/
theorem map_ups_blk {es : List (QK × Rs)} {key : QK} {r : Rs} : ∀ g ∈ (ups es key r).map (·.2.blk), g = r.blk ∨ g ∈ es.map (·.2.blk) := by
  intro g hg
  obtain ⟨p, hp, rfl⟩ := List.mem_map.1 hg
  rcases mem_ups hp with rfl | hp
  · exact Or.inl rfl
  · exact Or.inr (List.mem_map.2 ⟨p, hp, rfl⟩)
theorem nodup_ups_blk {es : List (QK × Rs)} {key : QK} {r : Rs} (h : (es.map (·.2.blk)).Nodup) (hr : r.blk ∉ es.map (·.2.blk)) : ((ups es key r).map (·.2.blk)).Nodup := by
  induction es with
  | nil => simp [ups]
  | cons p l ih =>
    rw [List.map_cons, List.nodup_cons] at h
    simp only [List.map_cons, List.mem_cons, not_or] at hr
    unfold ups
    split
    · rw [List.map_cons, List.nodup_cons]
      exact ⟨hr.2, h.2⟩
    · rw [List.map_cons, List.nodup_cons]
      refine ⟨fun hm => ?_, ih h.2 hr.2⟩
      rcases map_ups_blk _ hm with e | e
      · exact hr.1 e.symm
      · exact h.1 e
theorem mem_ups_imms {es : List (QK × Rs)} {key : QK} {r : Rs} {g : Nat} (h : g ∈ (ups es key r).flatMap (fun p => p.2.imm)) : g ∈ r.imm ∨ g ∈ es.flatMap (fun p => p.2.imm) := by
  obtain ⟨p, hp, hg⟩ := List.mem_flatMap.1 h
  rcases mem_ups hp with rfl | hp
  · exact Or.inl hg
  · exact Or.inr (List.mem_flatMap.2 ⟨p, hp, hg⟩)
theorem DmAt.put {w : World} {d : Dm} {key : QK} {r : Rs} {o : Obj} {n : Int} (h : DmAt w b d) (hr : RsAt w r) (h1 : r.blk ∉ d.muts b) (h2 : r.blk ∉ d.imms) (h3 : ∀ g ∈ r.imm, g ∉ d.muts b ∧ g ≠ r.blk ∧ g < w.heap.size)
    (hm : MapAt Try.prog 43 Inp.qk (setBlock w d.br o) d.br (ups (amap Rs.val d.es) key r.val)) : DmAt ((setBlock w d.br o).setCell ⟨b, 5, none⟩ (.int .i64 n)) b { d with es := ups d.es key r, cnt := n } := by
  have hnd := h.nodup
  unfold Dm.muts at hnd
  have hbr : b ≠ d.br := by simp only [List.nodup_cons, List.mem_cons, not_or] at hnd; exact hnd.1.2.2.1
  have hc : ChgP (fun g => g = d.br ∨ g = b) w ((setBlock w d.br o).setCell ⟨b, 5, none⟩ (.int .i64 n)) := ((ChgP.refl (fun g => g = d.br ∨ g = b) w).setBlock (Or.inl (Or.inl rfl)) o).setCell (p := ⟨b, 5, none⟩) (Or.inl (Or.inr rfl)) _
  have hmb : b ∈ d.muts b := by simp [Dm.muts]
  have hmbr : d.br ∈ d.muts b := by simp [Dm.muts]
  have himm : ∀ g ∈ d.imms, ¬ (g = d.br ∨ g = b) := fun g hg e => e.elim (fun e => h.apart g hg (e ▸ hmbr)) fun e => h.apart g hg (e ▸ hmb)
  have hbs : d.bs ≠ d.br ∧ d.bs ≠ b := by simp only [List.nodup_cons, List.mem_cons, not_or] at hnd; exact ⟨hnd.2.1.2.1, fun e => hnd.1.1 e.symm⟩
  have hbsm : d.bsm ≠ d.br ∧ d.bsm ≠ b := by simp only [List.nodup_cons, List.mem_cons, not_or] at hnd; exact ⟨hnd.2.2.1.1, fun e => hnd.1.2.1 e.symm⟩
  have hba : d.ba ≠ d.br ∧ d.ba ≠ b := by simp only [List.nodup_cons, List.mem_cons, not_or] at hnd; exact ⟨fun e => hnd.2.2.2.1.1 e.symm, fun e => hnd.1.2.2.2.1 e.symm⟩
  have hes : ∀ p ∈ d.es, p.2.blk ≠ d.br ∧ p.2.blk ≠ b := by
    intro p hp
    have hm' : p.2.blk ∈ d.es.map (·.2.blk) := List.mem_map.2 ⟨p, hp, rfl⟩
    simp only [List.nodup_cons, List.mem_cons, not_or] at hnd
    exact ⟨fun e => hnd.2.2.2.1.2 (e ▸ hm'), fun e => hnd.1.2.2.2.2 (e ▸ hm')⟩
  have blk : ∀ g, g < w.heap.size → ¬ (g = d.br ∨ g = b) → ((setBlock w d.br o).setCell ⟨b, 5, none⟩ (.int .i64 n)).heap[g]? = w.heap[g]? := fun g hg hn => hc.block g hg hn
  have e1 : (setBlock w d.br o).heap[b]? = w.heap[b]? := ((Chg.refl [d.br] w).setBlock (Or.inl (by simp)) o).block b (lt_of_obj h.blk) (by simpa using hbr)
  refine ⟨?_, ⟨(blk _ (lt_of_obj h.store.blk) (by simp [hbs])).trans h.store.blk, h.store.map.of_block (blk _ h.store.map.lt (by simp [hbsm])), fun p hp => ⟨intsKept' (h.store.vals p hp).1 fun g hg => blk g (h.bound g (Dm.imm_store (d := d) hp hg)) (himm g (Dm.imm_store (d := d) hp hg)), (h.store.vals p hp).2⟩⟩, h.text, ?_, h.act.of_block (blk _ h.act.lt (by simp [hba])), ?_, ?_, ?_, ?_⟩
  · exact (heap_setCell_same (e1.trans h.blk) _).trans rfl
  · show MapAt _ _ _ _ d.br (amap Rs.val (ups d.es key r))
    rw [← ups_amap]
    exact hm.of_block (heap_setCell_ne _ _ _ _ (by exact Ne.symm hbr))
  · intro p hp
    rcases mem_ups hp with rfl | hp
    · refine hr.kept (blk _ (lt_of_obj hr.blk) ?_) fun g hg => blk g (h3 g hg).2.2 ?_
      · rintro (e | e)
        · exact h1 (e ▸ hmbr)
        · exact h1 (e ▸ hmb)
      · rintro (e | e)
        · exact (h3 g hg).1 (e ▸ hmbr)
        · exact (h3 g hg).1 (e ▸ hmb)
    · have hl := h.lt _ (Dm.mut_mem (b := b) hp)
      exact (h.each p hp).kept (blk _ hl (by simp [hes p hp])) fun g hg => blk g (h.bound g (Dm.imm_mem hp hg)) (himm g (Dm.imm_mem hp hg))
  · unfold Dm.muts at h1 ⊢
    simp only [List.mem_cons, not_or] at h1
    simp only [List.nodup_cons, List.mem_cons, not_or] at hnd ⊢
    have hk : ∀ g, g ∉ d.es.map (·.2.blk) → g ≠ r.blk → g ∉ (ups d.es key r).map (·.2.blk) := fun g a b hm => (map_ups_blk g hm).elim b a
    obtain ⟨⟨a1, a2, a3, a4, a5⟩, ⟨b1, b2, b3, b4⟩, ⟨c1, c2, c3⟩, ⟨d1, d2⟩, e1, e2⟩ := hnd
    obtain ⟨r1, r2, r3, r4, r5, r6⟩ := h1
    exact ⟨⟨a1, a2, a3, a4, hk _ a5 (Ne.symm r1)⟩, ⟨b1, b2, b3, hk _ b4 (Ne.symm r2)⟩, ⟨c1, c2, hk _ c3 (Ne.symm r3)⟩, ⟨d1, hk _ d2 (Ne.symm r4)⟩, hk _ e1 (Ne.symm r5), nodup_ups_blk e2 r6⟩
  · intro g hg hm
    have hg' : g ∈ r.imm ∨ g ∈ d.imms := by
      rcases List.mem_append.1 hg with hg | hg
      · exact Or.inr (List.mem_append_left _ hg)
      · exact (mem_ups_imms hg).imp id fun h => List.mem_append_right _ h
    have hm' : g = r.blk ∨ g ∈ d.muts b := by
      unfold Dm.muts at hm ⊢
      simp only [List.mem_cons] at hm ⊢
      rcases hm with e | e | e | e | e | hm
      · simp [e]
      · simp [e]
      · simp [e]
      · simp [e]
      · simp [e]
      · rcases map_ups_blk g hm with e | e
        · exact Or.inl e
        · simp [e]
    rcases hg' with hg' | hg' <;> rcases hm' with hm' | hm'
    · exact (h3 g hg').2.1 hm'
    · exact (h3 g hg').1 hm'
    · exact h2 (hm' ▸ hg')
    · exact h.apart g hg' hm'
  · intro g hg
    have hg' : g ∈ r.imm ∨ g ∈ d.imms := by
      rcases List.mem_append.1 hg with hg | hg
      · exact Or.inr (List.mem_append_left _ hg)
      · exact (mem_ups_imms hg).imp id fun h => List.mem_append_right _ h
    refine Nat.lt_of_lt_of_le ?_ hc.size
    exact hg'.elim (fun h => (h3 g h).2.2) (h.bound g)
/-- behind the value's store -/
theorem GAt.fin {s' : PS} {l : List QK} {u : Int} {w3 : World} {d : Dm} {da : Option Addr} {dcap : Nat} {a : Option Addr} {c : Nat} {xs : List Int} (h : GAt w0 RO b K Kk ws ds cdb cr rb ver (s', l, u) w3 d da dcap) (hi : Inp.Ints w3 (.slice a xs.length c) xs) (hs : xs.length * 8 ≤ 140737488355328)
    (ha : ∀ ad, a = some ad → ad.block ∉ d.muts b ∧ ad.block ≠ rb) (hlt : ∀ g ∈ oblk a, g < w3.heap.size) {w4 : World} (hw4 : w4 = (w3.setCell ⟨rb, 0, none⟩ (.slice a xs.length c)).setCell ⟨rb, 1, none⟩ (.string ⟨#[]⟩)) {r : Rs} (hr : r = ⟨rb, a, c, xs, ver, ver, u, da, dcap, l, 0⟩) :
    Env w0 RO b w4 d ∧ Next b ws w4 ds d ∧ RsAt w4 r ∧ (∀ g ∈ r.imm, g ∉ d.muts b ∧ g ≠ rb ∧ g < w4.heap.size) ∧ rb ∉ d.muts b ∧ rb ∉ d.imms ∧ ws.heap.size ≤ rb ∧ (∀ g ∈ oblk da, ws.heap.size ≤ g) ∧ ChgP (fun g => g = rb) w3 w4 := by
  subst hr
  subst hw4
  have hc : ChgP (fun g => g = rb) w3 ((w3.setCell ⟨rb, 0, none⟩ (.slice a xs.length c)).setCell ⟨rb, 1, none⟩ (.string ⟨#[]⟩)) := ((ChgP.refl (fun g => g = rb) w3).setCell (p := ⟨rb, 0, none⟩) (Or.inl rfl) _).setCell (p := ⟨rb, 1, none⟩) (Or.inl rfl) _
  have hm := h.env.mem.kept hc (fun g hg e => h.ares.1 (e ▸ hg)) (fun g hg e => h.ares.2.1 (e ▸ hg))
  have himm : ∀ g ∈ oblk a ++ oblk da, g ∉ d.muts b ∧ g ≠ rb ∧ g < w3.heap.size := by
    intro g hg
    rcases List.mem_append.1 hg with hg | hg
    · cases a with
      | none => simp [oblk] at hg
      | some ad => simp [oblk] at hg; subst hg; exact ⟨(ha ad rfl).1, (ha ad rfl).2, hlt _ (by simp [oblk])⟩
    · exact ⟨(h.arow g hg).1, (h.arow g hg).2.2.2.2.2.1, h.dalt g hg⟩
  refine ⟨⟨hm, fun g hg => ?_⟩, ⟨hm, h.next.chg.comp hc fun g hg => Or.inr (hg ▸ h.ares.2.2.2.2.2), h.next.muts, h.next.imms, h.next.comp, h.next.stop, h.next.store, h.next.bs, h.next.bsm, h.next.br, h.next.ba, h.next.busy⟩, ⟨(heap_setCell_same (heap_setCell_same h.res _) _).trans rfl, ?_, hs, ?_⟩, fun g hg => ?_, h.ares.1, h.ares.2.1, h.ares.2.2.2.2.2, fun g hg => (h.arow g hg).2.2.2.2.2.2, hc⟩
  · obtain ⟨h1, h2, h3⟩ := h.env.ro g hg
    exact ⟨Nat.lt_of_lt_of_le h1 hc.size, (hc.block g h1 (fun hf => h.ares.2.2.1 (hf ▸ hg))).trans h2, h3⟩
  · exact intsKept' hi fun g hg => hc.block g (hlt g hg) (himm g (List.mem_append_left _ hg)).2.1
  · refine i3sKept' (SlR.imp (i3s_of_own h.row) (fun _ _ => trivial) fun _ _ _ h => h) fun g hg => hc.block g (h.dalt g hg) (himm g (List.mem_append_right _ hg)).2.1
  · exact ⟨(himm g hg).1, (himm g hg).2.1, Nat.lt_of_lt_of_le (himm g hg).2.2 hc.size⟩
/-- the change's revision is set -/
theorem RsAt.setChg {w : World} {r : Rs} (h : RsAt w r) (n : Int) (hi : ∀ g ∈ r.imm, g ≠ r.blk) : RsAt (w.setCell ⟨r.blk, 3, none⟩ (.int .i64 n)) { r with chg := n } :=
  ⟨(heap_setCell_same h.blk _).trans rfl, intsKept' h.nums fun g hg => heap_setCell_ne _ _ _ _ (hi g (List.mem_append_left _ hg)), h.size, i3sKept' h.deps fun g hg => heap_setCell_ne _ _ _ _ (hi g (List.mem_append_right _ hg))⟩
end
end Go.Proofs.Ytggiddhhbilcjaa
