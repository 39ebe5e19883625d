/- compute. -/
import Derived.Test.YtggiddhhbilcjaaSnC
namespace Go.Proofs.Ytggiddhhbilcjaa.Sn
open Go.RowKit Go.ChangeMaps Go.MapKept
set_option linter.unusedVariables false
set_option linter.unusedSimpArgs false
def compV (bv bq : Nat) : Value := .func (.func 50) #[] #[.pointer (some ⟨bv, 0, none⟩), .pointer (some ⟨bq, 0, none⟩)]
section
variable {p : Prg} {w0 : World} {RO : Nat → Prop} {be : Nat} {rev : Int}
theorem enterSg (args : Array Value) (w : World) : (callFunc 89 args).run Try.prog w = .ok (.enter 89 args) w := by go_simp
theorem sget_fam {A : List QK} {ws : World} {ds : Hm} {sv : Value} {cev cadd cr rb : Nat} {ch : Int → List PanicEntry} (hp : PrgOk p) {n q : Nat} (fam : EvalFam p w0 RO be rev ds.comp n) (hq : q ≤ n) (hqN : q < p.qs.length) (hA : ∀ q', q' < q → ActOk q' A) :
    VFam 89 #[.pointer (some ⟨cev, 0, none⟩), .pointer (some ⟨cadd, 0, none⟩), .pointer (some ⟨cr, 0, none⟩)] (GI p w0 RO be rev A ws ds sv cev cadd cr rb) (GRO RO cev cadd cr) (getP (RQ p.qs rev n) rev) ch (KeyIn p.inp q) :=
  ⟨enterSg, fun h hc => h.keep hc, fun h hF => h.anti hF, fun h => h.ro, fun F s w k hk hI => sget_any hp fam hq hqN hA F s w k hk hI⟩
theorem ActOk.add {q : Nat} {A : List QK} (h : ActOk q A) : ∀ q', q' < q → ActOk q' (A ++ [(1, (q : Int), 0)]) := fun q' hq' => by
  refine ⟨fun x hx => ?_, by have := h.2; simp only [List.length_append, List.length_cons, List.length_nil]; omega⟩
  rcases List.mem_append.1 hx with hx | hx
  · obtain ⟨y, h1, h2⟩ := h.1 x hx
    exact ⟨y, h1, by omega⟩
  · rw [List.mem_singleton] at hx
    exact ⟨q, hx, hq'⟩
theorem ActOk.not {q : Nat} {A : List QK} (h : ActOk q A) : (1, (q : Int), 0) ∉ A := fun hm => by
  obtain ⟨y, h1, h2⟩ := h.1 _ hm
  have := key_inj.1 h1
  omega
theorem NextE.before {A : List QK} {w w1 w2 : World} {d d' : Hm} {av av' : Value} (hc : Chg [] w w1) (k : NextE be rev A w1 w2 d av d' av') : NextE be rev A w w2 d av d' av' :=
  ⟨k.at_, (hc.p (S := EM d be av)).comp k.chg fun _ h => Or.inl h, fun g hg => (k.muts g hg).imp id fun h => Nat.le_trans hc.size h, fun g hg => (k.imm g hg).imp id fun h => Nat.le_trans hc.size h, k.b, k.comp, k.mu⟩
theorem EnvE.to {A A' : List QK} {w w' : World} {d d' : Hm} {av av' : Value} (h : EnvE w0 RO be rev A w d av) (k : NextE be rev A' w w' d av d' av') : EnvE w0 RO be rev A' w' d' av' :=
  ⟨k.at_, fun g hg => by
    obtain ⟨h1, h2, h3⟩ := h.ro g hg
    obtain ⟨k1, k2, k3⟩ := k.other h1 h3
    exact ⟨k3, k1.trans h2, k2⟩⟩
theorem infoRes : (Try.prog.info? 94).map (fun i => (i.zero, i.size, i.bytes)) = some (some (.pointer none), 1, 8) := by kernel_rfl
theorem GAt.fin {A : List QK} {ws w7 w8 : World} {ds d : Hm} {sv av iv : Value} {cev cadd cr rb : Nat} {s : HS} {f l : Int} {ins : List QK} {a : Option Addr} {c : Nat} {xs : List Int} (h : GAt p w0 RO be rev A ws ds sv cev cadd cr rb (s, f, l, ins) w7 d av iv) (hi : Inp.Ints w7 (.slice a xs.length c) xs) (hs : xs.length * 8 ≤ 140737488355328)
    (hw8 : w8 = (w7.setCell ⟨rb, 2, none⟩ (.slice a xs.length c)).setCell ⟨rb, 3, none⟩ (.string ⟨#[]⟩)) :
    NextE be rev A ws w8 ds sv d av ∧ RsAt w8 ⟨rb, f, l, a, c, xs, iv, ins⟩ ∧ ¬ EM d be av rb ∧ (∀ g, iv.ownBlock = some g → ¬ EM d be av g ∧ ws.heap.size ≤ g) ∧ ws.heap.size ≤ rb ∧ ChgP (fun g => g = rb) w7 w8 := by
  have hc : ChgP (fun g => g = rb) w7 w8 := by
    rw [hw8]
    exact ((ChgP.refl (fun g => g = rb) w7).setCell (p := ⟨rb, 2, none⟩) (Or.inl rfl) _).setCell (p := ⟨rb, 3, none⟩) (Or.inl rfl) _
  have hres := h.rba.res
  simp only at hres
  have hno := h.off rb (Or.inr (Or.inl rfl))
  have hat := h.env.at_.kept hc (fun g hg e => hno.1 (e ▸ hg)) (fun g hg e => hno.2 (e ▸ hg))
  refine ⟨⟨hat, h.next.chg.comp hc fun g hg => Or.inr (by rw [hg]; exact (h.new rb (Or.inl rfl)).2), h.next.muts, h.next.imm, h.next.b, h.next.comp, h.next.mu⟩, ⟨?_, intsKept' hi fun g hg => hc.block g (tyAt_lt (tyAt_ints hi hg)) fun e => ?_, hs, ownsRow_kept h.rba.row fun g hg hl => hc.block g hl (h.rba.own hg).2.1⟩, hno.1, fun g hg => ⟨(h.off g (Or.inr (Or.inr hg))).1, (h.new g (Or.inr hg)).2⟩, (h.new rb (Or.inl rfl)).2, hc⟩
  · rw [hw8]
    exact (heap_setCell_same (heap_setCell_same hres _) _).trans rfl
  · have h1 := tyAt_ints hi hg
    rw [show g = rb from e, tyAt_cells hres] at h1
    cases h1
set_option maxRecDepth 100000 in
set_option maxHeartbeats 8000000 in
theorem compute_any (hp : PrgOk p) {bv bq : Nat} {qv : Value} (hm : CompMem RO bv bq qv p.qs w0) {n q : Nat} (fam : EvalFam p w0 RO be rev (compV bv bq) n) (hq : q ≤ n) (hqN : q < p.qs.length) (w : World) (d : Hm) (av : Value) (A : List QK) (h : EnvE w0 RO be rev A w d av) (hcomp : d.comp = compV bv bq) (hst : StOk p rev d.pl) (hA : ActOk q A) (hno : (d.pl.res (1, (q : Int), 0)).find? (fits rev) = none) :
    Calls Try.prog 63 #[.pointer (some ⟨be, 0, none⟩), i3v (1, (q : Int), 0)] w (UPost (compP p.qs (RQ p.qs rev n) rev) be rev A (1, (q : Int), 0) w d av) := by
  obtain ⟨wa, hwa⟩ : ∃ x, x = (w.alloc (.cells #[.pointer (some ⟨be, 0, none⟩)] 88)).alloc (.cells #[.int .i64 1, .int .i64 (q : Int), .int .i64 0] 43) := ⟨_, rfl⟩
  have hca : Chg [] w wa := by rw [hwa]; exact ((Chg.refl [] w).alloc _).alloc _
  have hsa : wa.heap.size = w.heap.size + 2 := by rw [hwa]; simp
  have hev : wa.heap[w.heap.size]? = some (.cells #[.pointer (some ⟨be, 0, none⟩)] 88 (0, 0)) := by
    rw [hwa]; exact (heap_past _ _ _ (by simp)).trans (heap_at _ _ _ rfl)
  have hkb : wa.heap[w.heap.size + 1]? = some (.cells #[.int .i64 1, .int .i64 (q : Int), .int .i64 0] 43 (0, 0)) := by
    rw [hwa]; exact heap_at _ _ _ (by simp)
  have ha := h.new hca
  obtain ⟨ia, icap, rfl⟩ := ownsRow_shape h.at_.row
  have Hsa := Lib.hid hsa
  have H := Lib.hid h
  have Hst := Lib.hid hst
  have HA := Lib.hid hA
  have Hcomp := Lib.hid hcomp
  have Hno := Lib.hid hno
  clear hno
  have Hca := Lib.hid hca
  have Hb := Lib.hid (And.intro hev hkb)
  have Ha := Lib.hid ha
  have c0 : wa.cell? ⟨w.heap.size, 0, none⟩ = some (.pointer (some ⟨be, 0, none⟩)) := cell_of_heap hev rfl
  have b2 : wa.cell? ⟨be, 2, none⟩ = some (.slice ia A.length icap) := cell_of_heap ha.at_.ev rfl
  have e0 : wa.cell? ⟨w.heap.size + 1, 0, none⟩ = some (.int .i64 1) := cell_of_heap hkb rfl
  have e1 : wa.cell? ⟨w.heap.size + 1, 1, none⟩ = some (.int .i64 (q : Int)) := cell_of_heap hkb rfl
  have e2 : wa.cell? ⟨w.heap.size + 1, 2, none⟩ = some (.int .i64 0) := cell_of_heap hkb rfl
  clear hsa h hst hA hcomp hca hev hkb ha
  unfold i3v
  go_enter Try.func63, Try.ntmps63
  go_wp2_with fail
  rw [← hwa]
  clear hwa
  refine wp_region_readsQ 5 (by kernel_rfl) (by kernel_rfl) ?_
  intro wd hwd
  simp only [List.take_succ_cons, List.take_zero, List.drop_succ_cons, List.drop_zero]
  have hcd : Chg [] wa wd := by rw [hwd]; exact (Chg.refl _ _).drew
  have c0d := (hcd.cell (lt_of_cell c0) (by simp)).trans c0
  have b2d := (hcd.cell (lt_of_cell b2) (by simp)).trans b2
  have e0d := (hcd.cell (lt_of_cell e0) (by simp)).trans e0
  have e1d := (hcd.cell (lt_of_cell e1) (by simp)).trans e1
  have e2d := (hcd.cell (lt_of_cell e2) (by simp)).trans e2
  have hrow := (Ha.out.new hcd).at_.row
  have Hcon := Lib.hid (keyContains_any _ wd _ A (1, (q : Int), 0) (i3s_of_own hrow) (fun g hg => (hrow.lt g hg).2))
  have Hcd := Lib.hid hcd
  clear hwd hcd hrow c0 b2 e0 e1 e2
  repeat go_big_quiet_step (fail)
  refine wpQuiet_nil ?_
  go_wp2_with fail
  refine Hcon.out.mono ?_
  rintro e w2 ⟨rfl, cc2⟩
  rw [decide_eq_false HA.out.not]
  have hc2 := Hcd.out.trans cc2
  have Hc2 := Lib.hid (Hca.out.trans hc2)
  have Ha2 := Lib.hid (Ha.out.new hc2)
  have Hb2 := Lib.hid (And.intro ((hc2.block _ (lt_of_obj Hb.out.1) (by simp)).trans Hb.out.1) ((hc2.block _ (lt_of_obj Hb.out.2) (by simp)).trans Hb.out.2))
  have Hsz2 := Lib.hid (show w.heap.size + 2 ≤ w2.heap.size by have h1 := Hsa.out; have h2 := hc2.size; omega)
  clear cc2 hc2 c0d b2d e0d e1d e2d Hcon
  have c0 : w2.cell? ⟨w.heap.size, 0, none⟩ = some (.pointer (some ⟨be, 0, none⟩)) := cell_of_heap Hb2.out.1 rfl
  have b2 : w2.cell? ⟨be, 2, none⟩ = some (.slice ia A.length icap) := cell_of_heap Ha2.out.at_.ev rfl
  have e0 : w2.cell? ⟨w.heap.size + 1, 0, none⟩ = some (.int .i64 1) := cell_of_heap Hb2.out.2 rfl
  have e1 : w2.cell? ⟨w.heap.size + 1, 1, none⟩ = some (.int .i64 (q : Int)) := cell_of_heap Hb2.out.2 rfl
  have e2 : w2.cell? ⟨w.heap.size + 1, 2, none⟩ = some (.int .i64 0) := cell_of_heap Hb2.out.2 rfl
  go_wp2_with fail
  obtain ⟨i0, hi0, hz0, hz1, hz2⟩ := info_parts Try.infoKey
  have Hi0 := Lib.hid hi0
  have Hz0 := Lib.hid hz0
  have Hz1 := Lib.hid hz1
  have Hz2 := Lib.hid hz2
  clear hi0 hz0 hz1 hz2
  refine wp_region_T (fun w' => w'.cell? ⟨w.heap.size, 0, none⟩ = some (.pointer (some ⟨be, 0, none⟩)) ∧ w'.cell? ⟨be, 2, none⟩ = some (.slice ia A.length icap) ∧ w'.cell? ⟨w.heap.size + 1, 0, none⟩ = some (.int .i64 1) ∧ w'.cell? ⟨w.heap.size + 1, 1, none⟩ = some (.int .i64 (q : Int)) ∧ w'.cell? ⟨w.heap.size + 1, 2, none⟩ = some (.int .i64 0)) 10 (by kernel_rfl) ?_
  intro wd hwd
  have hcd : Chg [] w2 wd := by rw [hwd]; exact (Chg.refl _ _).drew
  have hwdE := Ha2.out.new hcd
  have HwdE := Lib.hid hwdE
  have Hcj := Lib.hid hcd
  have lev : w.heap.size < wd.heap.size := Nat.lt_of_lt_of_le (lt_of_cell c0) hcd.size
  have lkey : w.heap.size + 1 < wd.heap.size := Nat.lt_of_lt_of_le (lt_of_cell e0) hcd.size
  have lbe : be < wd.heap.size := Nat.lt_of_lt_of_le (lt_of_cell b2) hcd.size
  have hSW := And.intro ((hcd.cell (lt_of_cell c0) (by simp)).trans c0) (And.intro ((hcd.cell (lt_of_cell b2) (by simp)).trans b2) (And.intro ((hcd.cell (lt_of_cell e0) (by simp)).trans e0) (And.intro ((hcd.cell (lt_of_cell e1) (by simp)).trans e1) ((hcd.cell (lt_of_cell e2) (by simp)).trans e2))))
  have hia : ∀ g, (Value.slice ia A.length icap).ownBlock = some g → g < w.heap.size := fun g hg => (H.out.at_.row.lt g hg).2
  have hbe : ∀ g, (Value.slice ia A.length icap).ownBlock = some g → g ≠ be := fun g hg e => by
    have := tyAt_own hwdE.at_.row hg
    rw [e, tyAt_cells hwdE.at_.ev] at this
    cases this
  have hAl : A.length ≤ 100 := by have := HA.out.2; omega
  have Hia := Lib.hid hia
  have Hbe := Lib.hid hbe
  have Hca2 := Lib.hid ((Chg.refl [] wd).alloc (.cells #[.int .i64 1, .int .i64 (q : Int), .int .i64 0] 43))
  clear hwd hcd c0 b2 e0 e1 e2 hia hbe hwdE
  refine anyT_take (i := 0) (v := .pointer (some ⟨be, 0, none⟩)) rfl (by kernel_rfl) (fun _ _ _ h => h) (Or.inl ⟨by rfl, fun w' hS => by go_simp⟩) hSW ?_
  simp only [Act.put, List.setIfInBounds_toArray, List.set_cons_zero, List.set_cons_succ]
  refine anyT_take (i := 1) (v := .pointer (some ⟨be, 0, none⟩)) rfl (by kernel_rfl) (fun _ _ _ h => h) (Or.inl ⟨by rfl, fun w' hS => by go_simp⟩) hSW ?_
  simp only [Act.put, List.setIfInBounds_toArray, List.set_cons_zero, List.set_cons_succ]
  refine anyT_pure (i := 2) (v := .pointer (some ⟨be, 0, none⟩)) rfl (by kernel_rfl) (fun _ _ _ h => h) (Or.inl ⟨by rfl, fun w' hS => by go_simp⟩) hSW ?_
  simp only [Act.put, List.setIfInBounds_toArray, List.set_cons_zero, List.set_cons_succ]
  refine anyT_pure (i := 3) (v := .pointer (some ⟨be, 2, none⟩)) rfl (by kernel_rfl) (fun _ _ _ h => h) (Or.inl ⟨by rfl, fun w' hS => by go_simp⟩) hSW ?_
  simp only [Act.put, List.setIfInBounds_toArray, List.set_cons_zero, List.set_cons_succ]
  refine anyT_take (i := 4) (v := .slice ia A.length icap) rfl (by kernel_rfl) (fun _ _ _ h => h) (Or.inl ⟨by rfl, fun w' hS => by go_simp⟩) hSW ?_
  simp only [Act.put, List.setIfInBounds_toArray, List.set_cons_zero, List.set_cons_succ]
  refine anyT_take (i := 5) (v := .agg #[.int .i64 1, .int .i64 (q : Int), .int .i64 0]) rfl (by kernel_rfl) (fun _ _ _ h => h) (Or.inl ⟨by rfl, fun w' hS => by go_simp⟩) hSW ?_
  simp only [Act.put, List.setIfInBounds_toArray, List.set_cons_zero, List.set_cons_succ]
  refine anyT_one (k := 6) (by kernel_rfl) rfl (fun K hK => ?_)
  go_simp
  refine hK _ _ (fun _ => ?_) ?_
  · obtain ⟨s0, s1, s2, s3, s4⟩ := hSW
    exact ⟨(Hca2.out.cell (lt_of_cell s0) (by simp)).trans s0, (Hca2.out.cell (lt_of_cell s1) (by simp)).trans s1, (Hca2.out.cell (lt_of_cell s2) (by simp)).trans s2, (Hca2.out.cell (lt_of_cell s3) (by simp)).trans s3, (Hca2.out.cell (lt_of_cell s4) (by simp)).trans s4⟩
  clear hK K
  refine anyT_one (k := 7) (by kernel_rfl) rfl (fun K hK => ?_)
  refine step_append_lies _ (by rfl) _ _ _ (by rfl) 0 43 i0 (.agg #[.int .i64 0, .int .i64 0, .int .i64 0]) 3 24 Try.underlying89 Hi0.out Hz0.out Hz1.out Hz2.out rfl (by omega) (.slice ia A.length icap) A.length (flat3 A) (by rfl) (HwdE.out.at_.row.alloc _) ⟨wd.heap.size, 0, none⟩ 1 1 [.int .i64 1, .int .i64 (q : Int), .int .i64 0] (by rfl) (by rfl) (World.news_of_block (cs := #[.int .i64 1, .int .i64 (q : Int), .int .i64 0]) (t := 43) (fr := (0, 0)) (heap_alloc_new wd _)) (by simp [Value.oneCell']) (by omega) (by unfold maxLen; omega) (by omega) (Nat.zero_le _) (wd.heap.size + 1) (by simp) ?_
  intro gg cap8 w8 hown8 hgr8 hat8 hlt8
  have hc8 := ((ChgP.refl (fun g => (Value.slice ia A.length icap).ownBlock = some g) wd).alloc (.cells #[.int .i64 1, .int .i64 (q : Int), .int .i64 0] 43)).grown hgr8 (fun k h => Or.inl h)
  have hat8' : ∀ g, (Value.slice (some (⟨gg, 0, none⟩ : Addr)) (A.length + 1) cap8).ownBlock = some g → (Value.slice ia A.length icap).ownBlock = some g ∨ wd.heap.size ≤ g := fun g hg => by
    simp only [Value.ownBlock, Option.some.injEq] at hg
    subst hg
    exact hat8.elim Or.inl (fun e => Or.inr (by rw [e]; exact Nat.le_succ _))
  have hbe8 := (hc8.block be lbe (fun h => Hbe.out _ h rfl)).trans HwdE.out.at_.ev
  have r2 := cell_of_heap hbe8 (i := 2) rfl
  have fr2 := frozen_of_heap hbe8 (i := 2)
  have Hpush := Lib.hid (HwdE.out.at_.push (k := (1, (q : Int), 0)) rfl hown8 hc8 hat8')
  have Hk8 := Lib.hid (And.intro ((hc8.block _ lev (fun h => Nat.lt_irrefl _ (Hia.out _ h))).trans ((Hcj.out.block _ (lt_of_obj Hb2.out.1) (by simp)).trans Hb2.out.1)) ((hc8.block _ lkey (fun h => by have := Hia.out _ h; omega)).trans ((Hcj.out.block _ (lt_of_obj Hb2.out.2) (by simp)).trans Hb2.out.2)))
  have hS8 := And.intro (cell_of_heap Hk8.out.1 (i := 0) rfl) (And.intro r2 (And.intro (cell_of_heap Hk8.out.2 (i := 0) rfl) (And.intro (cell_of_heap Hk8.out.2 (i := 1) rfl) (cell_of_heap Hk8.out.2 (i := 2) rfl))))
  go_simp
  refine hK _ _ (fun _ => hS8) ?_
  clear hK K hown8 hgr8 hat8 hlt8 hc8 hat8' hSW
  refine anyT_one (k := 8) (by kernel_rfl) rfl (fun K hK => ?_)
  go_simp
  refine hK _ _ (fun _ => hS8) ?_
  clear hK K
  refine anyT_one (k := 9) (by kernel_rfl) rfl (fun K hK => ?_)
  go_simp
  refine hK _ _ (fun _ => hS8) ?_
  clear hK K
  refine anyT_one (k := 10) (by kernel_rfl) rfl (fun K hK => ?_)
  go_simp
  refine hK _ _ (fun h => by simp at h) ?_
  clear hK K
  refine anyT_done (by kernel_rfl) ?_
  obtain ⟨w4, hw4⟩ : ∃ x, x = w8.setCell ⟨be, 2, none⟩ (.slice (some ⟨gg, 0, none⟩) (A.length + 1) cap8) := ⟨_, rfl⟩
  have hp4 := Hpush.out
  rw [← hw4] at hp4 ⊢
  have hl4 : w.heap.size ≠ be ∧ w.heap.size + 1 ≠ be := by
    have h1 := lt_of_obj H.out.at_.ev
    constructor <;> omega
  have hs4 : ChgP (fun g => g = be) w8 w4 := by rw [hw4]; exact (ChgP.refl (fun g => g = be) w8).setCell (p := ⟨be, 2, none⟩) (Or.inl rfl) _
  have Hk4 := Lib.hid (And.intro ((hs4.block _ (lt_of_obj Hk8.out.1) hl4.1).trans Hk8.out.1) ((hs4.block _ (lt_of_obj Hk8.out.2) hl4.2).trans Hk8.out.2))
  have Hp4 := Lib.hid hp4
  clear hw4 hp4 hs4 hl4 hbe8 r2 fr2 hS8 Hpush lev lkey lbe
  go_wp2_with fail
  obtain ⟨w5, hw5⟩ : ∃ x, x = (((w4.alloc (.cells #[.int .i64 0, .int .i64 1152921504606846976, .slice none 0 0, .string ⟨#[]⟩, .slice none 0 0] 93)).alloc (.cells #[.pointer (some ⟨w4.heap.size, 0, none⟩)] 94)).alloc (.cells #[.func (.func 88) #[] #[.pointer (some ⟨w4.heap.size + 1, 0, none⟩)]] 165)) := ⟨_, rfl⟩
  rw [← hw5]
  have hc5 : Chg [] w4 w5 := by rw [hw5]; exact (((Chg.refl [] w4).alloc _).alloc _).alloc _
  have hrb5 : w5.heap[w4.heap.size]? = some (.cells #[.int .i64 0, .int .i64 1152921504606846976, .slice none 0 0, .string ⟨#[]⟩, .slice none 0 0] 93 (0, 0)) := by
    rw [hw5]; exact (heap_past _ _ _ (by simp; omega)).trans ((heap_past _ _ _ (by simp)).trans (heap_at _ _ _ rfl))
  have hcr5 : w5.heap[w4.heap.size + 1]? = some (.cells #[.pointer (some ⟨w4.heap.size, 0, none⟩)] 94 (0, 0)) := by
    rw [hw5]; exact (heap_past _ _ _ (by simp)).trans (heap_at _ _ _ (by simp))
  have had5 : w5.heap[w4.heap.size + 1 + 1]? = some (.cells #[.func (.func 88) #[] #[.pointer (some ⟨w4.heap.size + 1, 0, none⟩)]] 165 (0, 0)) := by
    rw [hw5]; exact heap_at _ _ _ (by simp)
  clear hw5
  have hcw : Chg [] w wd := Hc2.out.trans Hcj.out
  have hn5 := (NextE.before hcw Hp4.out.2.2).thenNew hc5
  have hsz4 : w.heap.size + 2 ≤ w4.heap.size := by have h1 := Hsz2.out; have h2 := Hcj.out.size; have h3 := Hp4.out.2.1.size; omega
  have henv5 := H.out.to hn5
  have hnew : ∀ g, w4.heap.size ≤ g → ¬ EM d be (.slice (some ⟨gg, 0, none⟩) (A.length + 1) cap8) g ∧ ¬ d.I g := fun g hg => ⟨fun hm => by have := Hp4.out.1.lt hm; omega, fun hm => by have := Hp4.out.1.mem.ltI hm; omega⟩
  have hga : GAt p w0 RO be rev (A ++ [(1, (q : Int), 0)]) w d (.slice ia A.length icap) w.heap.size (w4.heap.size + 1 + 1) (w4.heap.size + 1) w4.heap.size (d.pl, 0, fev, []) w5 d (.slice (some ⟨gg, 0, none⟩) (A.length + 1) cap8) (.slice none 0 0) :=
    ⟨henv5, hn5, rfl, Hst.out, (hc5.block _ (lt_of_obj Hk4.out.1) (by simp)).trans Hk4.out.1, had5, ⟨hcr5, hrb5, World.ownsRow_nil _ _ _ _⟩, by simp, by simp, fun g hg => hnew g (by
      rcases hg with hg | hg | hg
      · omega
      · omega
      · simp [Value.ownBlock] at hg), fun g hg => by
      rcases hg with hg | hg
      · exact ⟨fun hr => by have := (H.out.ro g hr).1; omega, by omega⟩
      · simp [Value.ownBlock] at hg⟩
  have hkb5 := (hc5.block _ (lt_of_obj Hk4.out.2) (by simp)).trans Hk4.out.2
  have htk := tyAt_cells hkb5
  have hgi : GI p w0 RO be rev (A ++ [(1, (q : Int), 0)]) w d (.slice ia A.length icap) w.heap.size (w4.heap.size + 1 + 1) (w4.heap.size + 1) w4.heap.size (fun g => g = w.heap.size + 1) (d.pl, 0, fev, []) w5 :=
    ⟨d, _, _, hga, fun g hg => by
      subst hg
      refine ⟨by omega, fun hm => ?_, fun hm => by have := H.out.at_.mem.ltI hm; omega, by omega, by simp [Value.ownBlock]⟩
      rcases Hp4.out.2.2.muts _ hm with hm1 | hm1
      · have := H.out.at_.lt hm1; omega
      · have h1 := Hsz2.out; have h2 := Hcj.out.size; omega, fun g hg => by subst hg; exact lt_of_obj hkb5⟩
  have hs5 : w5.cell? ⟨w4.heap.size + 1, 0, none⟩ = some (.pointer (some ⟨w4.heap.size, 0, none⟩)) ∧ w5.cell? ⟨w.heap.size, 0, none⟩ = some (.pointer (some ⟨be, 0, none⟩)) ∧ w5.cell? ⟨be, 0, none⟩ = some (.pointer (some ⟨d.b, 0, none⟩)) ∧ w5.cell? ⟨d.b, 2, none⟩ = some (.func (.func 50) #[] #[.pointer (some ⟨bv, 0, none⟩), .pointer (some ⟨bq, 0, none⟩)]) ∧ w5.cell? ⟨w.heap.size + 1, 0, none⟩ = some (.int .i64 1) ∧ w5.cell? ⟨w.heap.size + 1, 1, none⟩ = some (.int .i64 (q : Int)) ∧ w5.cell? ⟨w.heap.size + 1, 2, none⟩ = some (.int .i64 0) :=
    ⟨cell_of_heap hcr5 rfl, cell_of_heap hga.bev rfl, cell_of_heap hga.env.at_.ev rfl, (cell_of_heap hga.env.at_.mem.box (i := 2) rfl).trans (by rw [show (d.head[2]'(by simp [Hm.head])) = d.comp from rfl, Hcomp.out]; rfl), cell_of_heap hkb5 rfl, cell_of_heap hkb5 rfl, cell_of_heap hkb5 rfl⟩
  obtain ⟨σ, hcq, hstp, hink, hnd, hres0⟩ := (comp_ok hp (good_RQ hp rev n) hq hqN Hst.out.inv Hst.out.r0 Hst.out.r1 Hno.out).2
  refine wp_region_U (fun w' => w'.cell? ⟨w4.heap.size + 1, 0, none⟩ = some (.pointer (some ⟨w4.heap.size, 0, none⟩)) ∧ w'.cell? ⟨w.heap.size, 0, none⟩ = some (.pointer (some ⟨be, 0, none⟩)) ∧ w'.cell? ⟨be, 0, none⟩ = some (.pointer (some ⟨d.b, 0, none⟩)) ∧ w'.cell? ⟨d.b, 2, none⟩ = some (.func (.func 50) #[] #[.pointer (some ⟨bv, 0, none⟩), .pointer (some ⟨bq, 0, none⟩)]) ∧ w'.cell? ⟨w.heap.size + 1, 0, none⟩ = some (.int .i64 1) ∧ w'.cell? ⟨w.heap.size + 1, 1, none⟩ = some (.int .i64 (q : Int)) ∧ w'.cell? ⟨w.heap.size + 1, 2, none⟩ = some (.int .i64 0)) (fun _ => True) 12 (by kernel_rfl) ?_
  intro we hwe
  have hce : Chg [] w5 we := by rw [hwe]; exact (Chg.refl _ _).drew
  have hgie : GI p w0 RO be rev (A ++ [(1, (q : Int), 0)]) w d (.slice ia A.length icap) w.heap.size (w4.heap.size + 1 + 1) (w4.heap.size + 1) w4.heap.size (fun g => g = w.heap.size + 1) (d.pl, 0, fev, []) we :=
    (hgi.keep (hce.p (S := fun g => g = w.heap.size + 1 ∧ ¬ GRO RO w.heap.size (w4.heap.size + 1 + 1) (w4.heap.size + 1) g))).anti fun _ h => Or.inl h
  have hSW := And.intro ((hce.cell (lt_of_cell hs5.1) (by simp)).trans hs5.1) (And.intro ((hce.cell (lt_of_cell hs5.2.1) (by simp)).trans hs5.2.1) (And.intro ((hce.cell (lt_of_cell hs5.2.2.1) (by simp)).trans hs5.2.2.1) (And.intro ((hce.cell (lt_of_cell hs5.2.2.2.1) (by simp)).trans hs5.2.2.2.1) (And.intro ((hce.cell (lt_of_cell hs5.2.2.2.2.1) (by simp)).trans hs5.2.2.2.2.1) (And.intro ((hce.cell (lt_of_cell hs5.2.2.2.2.2.1) (by simp)).trans hs5.2.2.2.2.2.1) ((hce.cell (lt_of_cell hs5.2.2.2.2.2.2) (by simp)).trans hs5.2.2.2.2.2.2))))))
  have hcm : CompMem RO bv bq qv p.qs we := hm.same fun g hg => (hce.block g (henv5.ro g hg).1 (by simp)).trans (henv5.ro g hg).2.1
  have hcall := compile1_any (σ := GT) (ch := chI) (inp := p.inp) (qs := p.qs) hcm hp hqN (sget_fam (ch := chI) hp (Hcomp.out ▸ fam) hq hqN HA.out.add) hgie (fun g hg => Or.inl hg)
  rw [hcq] at hcall
  have Hcall := Lib.hid hcall
  have Hkb5 := Lib.hid ((hce.block _ (lt_of_obj hkb5) (by simp)).trans hkb5)
  have Hcq := Lib.hid (And.intro hcq (And.intro hstp (And.intro hink hnd)))
  have Hsz4 := Lib.hid hsz4
  clear hwe hce hgie hcm hcall hs5 hgi htk hga hnew henv5 hn5 hcw hc5 hrb5 hcr5 had5 hkb5 hcq hstp hink hnd hsz4
  refine anyU_take (i := 0) (v := .pointer (some ⟨w4.heap.size, 0, none⟩)) rfl (by kernel_rfl) (fun _ _ _ h => h) (Or.inl ⟨by rfl, fun w' hS => by go_simp⟩) hSW trivial ?_
  simp only [Act.put, List.setIfInBounds_toArray, List.set_cons_zero, List.set_cons_succ]
  refine anyU_take (i := 1) (v := .pointer (some ⟨be, 0, none⟩)) rfl (by kernel_rfl) (fun _ _ _ h => h) (Or.inl ⟨by rfl, fun w' hS => by go_simp⟩) hSW trivial ?_
  simp only [Act.put, List.setIfInBounds_toArray, List.set_cons_zero, List.set_cons_succ]
  refine anyU_pure (i := 2) (v := .pointer (some ⟨be, 0, none⟩)) rfl (by kernel_rfl) (fun _ _ _ h => h) (Or.inl ⟨by rfl, fun w' hS => by go_simp⟩) (fun _ => hSW) trivial ?_
  simp only [Act.put, List.setIfInBounds_toArray, List.set_cons_zero, List.set_cons_succ]
  refine anyU_pure (i := 3) (v := .pointer (some ⟨be, 0, none⟩)) rfl (by kernel_rfl) (fun _ _ _ h => h) (Or.inl ⟨by rfl, fun w' hS => by go_simp⟩) (fun _ => hSW) trivial ?_
  simp only [Act.put, List.setIfInBounds_toArray, List.set_cons_zero, List.set_cons_succ]
  refine anyU_take (i := 4) (v := .pointer (some ⟨d.b, 0, none⟩)) rfl (by kernel_rfl) (fun _ _ _ h => h) (Or.inl ⟨by rfl, fun w' hS => by go_simp⟩) hSW trivial ?_
  simp only [Act.put, List.setIfInBounds_toArray, List.set_cons_zero, List.set_cons_succ]
  refine anyU_pure (i := 5) (v := .pointer (some ⟨d.b, 0, none⟩)) rfl (by kernel_rfl) (fun _ _ _ h => h) (Or.inl ⟨by rfl, fun w' hS => by go_simp⟩) (fun _ => hSW) trivial ?_
  simp only [Act.put, List.setIfInBounds_toArray, List.set_cons_zero, List.set_cons_succ]
  refine anyU_pure (i := 6) (v := .pointer (some ⟨d.b, 2, none⟩)) rfl (by kernel_rfl) (fun _ _ _ h => h) (Or.inl ⟨by rfl, fun w' hS => by go_simp⟩) (fun _ => hSW) trivial ?_
  simp only [Act.put, List.setIfInBounds_toArray, List.set_cons_zero, List.set_cons_succ]
  refine anyU_take (i := 7) (v := .func (.func 50) #[] #[.pointer (some ⟨bv, 0, none⟩), .pointer (some ⟨bq, 0, none⟩)]) rfl (by kernel_rfl) (fun _ _ _ h => h) (Or.inl ⟨by rfl, fun w' hS => by go_simp⟩) hSW trivial ?_
  simp only [Act.put, List.setIfInBounds_toArray, List.set_cons_zero, List.set_cons_succ]
  refine anyU_take (i := 8) (v := .agg #[.int .i64 1, .int .i64 (q : Int), .int .i64 0]) rfl (by kernel_rfl) (fun _ _ _ h => h) (Or.inl ⟨by rfl, fun w' hS => by go_simp⟩) hSW trivial ?_
  simp only [Act.put, List.setIfInBounds_toArray, List.set_cons_zero, List.set_cons_succ]
  refine anyU_pure (i := 9) (v := .func (.func 89) #[] #[.pointer (some ⟨w.heap.size, 0, none⟩), .pointer (some ⟨w4.heap.size + 1 + 1, 0, none⟩), .pointer (some ⟨w4.heap.size + 1, 0, none⟩)]) rfl (by kernel_rfl) (fun _ _ _ h => h) (Or.inl ⟨by rfl, fun w' hS => by go_simp⟩) (fun _ => hSW) trivial ?_
  simp only [Act.put, List.setIfInBounds_toArray, List.set_cons_zero, List.set_cons_succ]
  refine anyU_one (k := 10) (by kernel_rfl) rfl (fun K hK => ?_)
  go_simp
  refine Hcall.out.mono ?_
  rintro e w6 ⟨hp1, hp2, hp3⟩
  simp only at hp1 hp2
  obtain ⟨a, c, rfl, hints, hsize⟩ := hp1
  obtain ⟨d2, av2, iv2, hg2, hF2, _⟩ := hp2
  obtain ⟨s2, f2, l2, ins2⟩ := σ
  have hpl2 := hg2.pl
  simp only at hpl2
  subst hpl2
  obtain ⟨xs, hxs⟩ : ∃ xs, xs = [val p (insS p d.pl rev) q] := ⟨_, rfl⟩
  rw [← hxs] at hints hsize ⊢
  have hkb6 := (hp3.block _ (lt_of_obj Hkb5.out) (fun h => h.1 rfl)).trans Hkb5.out
  have hb2 : d2.b = d.b := hg2.next.b
  have hcomp2 : d2.comp = compV bv bq := hg2.next.comp.trans Hcomp.out
  have hS6 : w6.cell? ⟨w4.heap.size + 1, 0, none⟩ = some (.pointer (some ⟨w4.heap.size, 0, none⟩)) ∧ w6.cell? ⟨w.heap.size, 0, none⟩ = some (.pointer (some ⟨be, 0, none⟩)) ∧ w6.cell? ⟨be, 0, none⟩ = some (.pointer (some ⟨d.b, 0, none⟩)) ∧ w6.cell? ⟨d.b, 2, none⟩ = some (.func (.func 50) #[] #[.pointer (some ⟨bv, 0, none⟩), .pointer (some ⟨bq, 0, none⟩)]) ∧ w6.cell? ⟨w.heap.size + 1, 0, none⟩ = some (.int .i64 1) ∧ w6.cell? ⟨w.heap.size + 1, 1, none⟩ = some (.int .i64 (q : Int)) ∧ w6.cell? ⟨w.heap.size + 1, 2, none⟩ = some (.int .i64 0) :=
    ⟨cell_of_heap hg2.rba.bre rfl, cell_of_heap hg2.bev rfl, (cell_of_heap hg2.env.at_.ev (i := 0) rfl).trans (by rw [← hb2]; rfl), by rw [← hb2]; exact (cell_of_heap hg2.env.at_.mem.box (i := 2) rfl).trans (by rw [show (d2.head[2]'(by simp [Hm.head])) = d2.comp from rfl, hcomp2]; rfl), cell_of_heap hkb6 rfl, cell_of_heap hkb6 rfl, cell_of_heap hkb6 rfl⟩
  have Hg2 := Lib.hid hg2
  have Hkb6 := Lib.hid hkb6
  have Hb2' := Lib.hid hb2
  have Hxs := Lib.hid hxs
  have Hsize := Lib.hid hsize
  have Hcl := Lib.hid (clone_any w6 _ ⟨#[]⟩ xs hints hsize)
  clear hp3 hg2 hF2 hints hsize hxs hSW hkb6 hb2 hcomp2
  refine hK _ _ (fun _ => hS6) trivial ?_
  clear hK K
  refine anyU_one (k := 11) (by kernel_rfl) rfl (fun K hK => ?_)
  go_simp
  refine Hcl.out.mono ?_
  rintro e w7 ⟨a3, c3, rfl, hi3, hn3, hc7⟩
  have hS7 := And.intro ((hc7.cell (lt_of_cell hS6.1) (by simp)).trans hS6.1) (And.intro ((hc7.cell (lt_of_cell hS6.2.1) (by simp)).trans hS6.2.1) (And.intro ((hc7.cell (lt_of_cell hS6.2.2.1) (by simp)).trans hS6.2.2.1) (And.intro ((hc7.cell (lt_of_cell hS6.2.2.2.1) (by simp)).trans hS6.2.2.2.1) (And.intro ((hc7.cell (lt_of_cell hS6.2.2.2.2.1) (by simp)).trans hS6.2.2.2.2.1) (And.intro ((hc7.cell (lt_of_cell hS6.2.2.2.2.2.1) (by simp)).trans hS6.2.2.2.2.2.1) ((hc7.cell (lt_of_cell hS6.2.2.2.2.2.2) (by simp)).trans hS6.2.2.2.2.2.2))))))
  have hG7 := Hg2.out.newW hc7
  have hres7 := hG7.rba.res
  have rr2 := cell_of_heap hres7 (i := 2) rfl
  have rr3 := cell_of_heap hres7 (i := 3) rfl
  have fr2 := frozen_of_heap hres7 (i := 2)
  have fr3 := frozen_of_heap hres7 (i := 3)
  have HG7 := Lib.hid hG7
  have Hi3 := Lib.hid hi3
  have Hkb7 := Lib.hid ((hc7.block _ (lt_of_obj Hkb6.out) (by simp)).trans Hkb6.out)
  have Hn3 := Lib.hid (show ∀ g ∈ oblk a3, w.heap.size ≤ g from fun g hg => by
    cases a3 with
    | none => simp [oblk] at hg
    | some ad =>
      simp [oblk] at hg
      subst hg
      have h1 := hn3 ad rfl
      have h2 := Hg2.out.next.chg.size
      omega)
  clear hi3 hn3 hc7 hS6 hG7 hres7 Hcl
  refine hK _ _ (fun _ => hS7) trivial ?_
  clear hK K hS7
  refine anyU_one (k := 12) (by kernel_rfl) rfl (fun K hK => ?_)
  go_simp
  refine hK _ _ (fun h => by simp at h) trivial ?_
  clear hK K
  refine anyU_one (k := 13) (by kernel_rfl) rfl (fun K hK => ?_)
  go_simp
  refine hK _ _ (fun h => by simp at h) trivial ?_
  clear hK K
  refine anyU_one (k := 14) (by kernel_rfl) rfl (fun K hK => ?_)
  go_simp
  refine hK _ _ (fun h => by simp at h) trivial ?_
  clear hK K
  refine anyU_done (by kernel_rfl) ?_
  obtain ⟨wx, hwx⟩ : ∃ x, x = (w7.setCell ⟨w4.heap.size, 2, none⟩ (.slice a3 xs.length c3)).setCell ⟨w4.heap.size, 3, none⟩ (.string ⟨#[]⟩) := ⟨_, rfl⟩
  have hfin := HG7.out.fin Hi3.out Hsize.out hwx
  have hty7 := tyAt_cells HG7.out.rba.res
  have hk7 := tyAt_cells Hkb7.out
  have hkx := (hfin.2.2.2.2.2.block _ (lt_of_obj Hkb7.out) (fun e => by
    rw [← e, hk7] at hty7
    cases hty7)).trans Hkb7.out
  have hevx := (hfin.2.2.2.2.2.block _ (lt_of_obj HG7.out.bev) (HG7.out.nes.1.1)).trans HG7.out.bev
  have hcrx := (hfin.2.2.2.2.2.block _ (lt_of_obj HG7.out.rba.bre) HG7.out.rba.ne).trans HG7.out.rba.bre
  rw [← hwx]
  have Hfin := Lib.hid hfin
  have Hbx := Lib.hid (And.intro hevx (And.intro hkx hcrx))
  clear hwx hfin hty7 hk7 hkx hevx hcrx rr2 rr3 fr2 fr3
  obtain ⟨ia2, icap2, rfl⟩ := ownsRow_shape Hfin.out.1.at_.row
  have hlen2 : (A ++ [((1 : Int), (q : Int), (0 : Int))]).length = A.length + 1 := by simp
  rw [hlen2] at Hfin
  have hst2 := Hst.out.stp Hcq.out.2.1
  simp only at hst2
  have hfew : (gL d2.RL (1, (q : Int), 0)).length ≤ 200000 := by
    have h1 := (hst2.inv.sep (1, (q : Int), 0)).len
    have h2 := hst2.few
    have h3 : (d2.pl.res (1, (q : Int), 0)).length = (gL d2.RL (1, (q : Int), 0)).length := List.length_map ..
    rcases h1 with h1 | h1
    · omega
    · rw [h1] at h3; simp at h3; omega
  obtain ⟨_, gp, rfl, hp1, hp2⟩ := ownsRow_pop3 (show wx.ownsRow 0 43 3 (.slice ia2 (A.length + 1) icap2) (A.length + 1) (flat3 (A ++ [((1 : Int), (q : Int), (0 : Int))])) by have := Hfin.out.1.at_.row; rw [hlen2] at this; exact this) rfl
  have c0 : wx.cell? ⟨w.heap.size, 0, none⟩ = some (.pointer (some ⟨be, 0, none⟩)) := cell_of_heap Hbx.out.1 rfl
  have b2 : wx.cell? ⟨be, 2, none⟩ = some (.slice (some ⟨gp, 0, none⟩) (A.length + 1) icap2) := cell_of_heap Hfin.out.1.at_.ev rfl
  have fb2 := frozen_of_heap Hfin.out.1.at_.ev (i := 2)
  have hp3 : A.length ≤ icap2 := by omega
  unfold maxLen at hp2
  clear hst2 hlen2
  go_wp2_with fail
  refine wp_region_readsQ 12 (by kernel_rfl) (by kernel_rfl) ?_
  intro wy hwy
  simp only [List.take_succ_cons, List.take_zero, List.drop_succ_cons, List.drop_zero]
  have hcy : Chg [] wx wy := by rw [hwy]; exact (Chg.refl _ _).drew
  have c0y := (hcy.cell (lt_of_cell c0) (by simp)).trans c0
  have b2y := (hcy.cell (lt_of_cell b2) (by simp)).trans b2
  have fb2y := (hcy.frozen (p := ⟨be, 2, none⟩) (lt_of_cell b2) (by simp)).trans fb2
  have hny := Hfin.out.1.thenNew hcy
  have hry : RsAt wy ⟨w4.heap.size, f2, l2, a3, c3, xs, iv2, ins2⟩ := Hfin.out.2.1.kept (hcy.block _ (lt_of_obj Hfin.out.2.1.blk) (by simp)) (fun g hg => hcy.block g (tyAt_lt (tyAt_ints Hfin.out.2.1.nums hg)) (by simp)) fun g hg => hcy.block g (Hfin.out.2.1.ins.lt g hg).2 (by simp)
  have b0y : wy.cell? ⟨be, 0, none⟩ = some (.pointer (some ⟨d2.b, 0, none⟩)) := cell_of_heap hny.at_.ev rfl
  have n7y : wy.cell? ⟨d2.b, 7, none⟩ = some (.int .i64 d2.cnt) := cell_of_heap hny.at_.mem.box rfl
  have f7y := frozen_of_heap hny.at_.mem.box (i := 7)
  have nbb : d2.b ≠ be := fun e => by
    have h1 := tyAt_cells hny.at_.ev
    rw [← e, tyAt_cells hny.at_.mem.box] at h1
    cases h1
  have nbb' : be ≠ d2.b := Ne.symm nbb
  have hnev : w.heap.size ≠ be := by have h1 := lt_of_obj H.out.at_.ev; omega
  obtain ⟨wz, hwz⟩ : ∃ x, x = (wy.setCell ⟨be, 2, none⟩ (.slice (some ⟨gp, 0, none⟩) A.length icap2)).setCell ⟨d2.b, 7, none⟩ (.int .i64 (wrap64 (d2.cnt + 1))) := ⟨_, rfl⟩
  have hend := comp_end (k := (1, (q : Int), 0)) hny rfl hry Hfin.out.2.2.1 Hfin.out.2.2.2.1 Hn3.out Hfin.out.2.2.2.2.1 hwz
  have hcz : ChgP (fun g => g = be ∨ g = d2.b) wy wz := by
    rw [hwz]
    exact ((ChgP.refl (fun g => g = be ∨ g = d2.b) wy).setCell (p := ⟨be, 2, none⟩) (Or.inl (Or.inl rfl)) _).setCell (p := ⟨d2.b, 7, none⟩) (Or.inl (Or.inr rfl)) _
  have hno3 : ∀ g t, tyAt wy g = some t → t ≠ some 91 → t ≠ some 80 → ¬ (g = be ∨ g = d2.b) := by
    rintro g t ht h1 h2 (e | e)
    · rw [e, tyAt_cells hny.at_.ev] at ht; cases ht; exact h1 rfl
    · rw [e, tyAt_cells hny.at_.mem.box] at ht; cases ht; exact h2 rfl
  have hbz : ∀ {g : Nat} {c : Array Value} {T : TypeId}, wx.heap[g]? = some (.cells c T (0, 0)) → T ≠ 91 → T ≠ 80 → wz.heap[g]? = some (.cells c T (0, 0)) := fun {g c T} hb h1 h2 => by
    have hb' := (hcy.block g (lt_of_obj hb) (by simp)).trans hb
    exact (hcz.block g (lt_of_obj hb') (hno3 g _ (tyAt_cells hb') (fun e => h1 (Option.some.inj e)) (fun e => h2 (Option.some.inj e)))).trans hb'
  have hevz := hbz Hbx.out.1 (by decide) (by decide)
  have hkz := hbz Hbx.out.2.1 (by decide) (by decide)
  have hcrz := hbz Hbx.out.2.2 (by decide) (by decide)
  have Hend := Lib.hid hend
  have Hbz := Lib.hid (And.intro hevz (And.intro hkz hcrz))
  clear hwy hcy c0 b2 fb2 hny hry hend hcz hno3 hbz hevz hkz hcrz
  repeat go_big_quiet_step (fail)
  refine wpQuiet_nil ?_
  go_wp2_with fail
  rw [← hwz]
  clear hwz c0y b2y fb2y b0y n7y f7y
  have hmz := Hend.out.1
  have hcrn : (gV d2.RL (1, (q : Int), 0)).ownBlock ≠ some (w4.heap.size + 1) := fun e => (HG7.out.off _ (Or.inl rfl)).1 (Or.inl (Or.inr (Or.inr (Or.inr (Or.inr (Or.inl ⟨_, e⟩))))))
  have c0 : wz.cell? ⟨w.heap.size, 0, none⟩ = some (.pointer (some ⟨be, 0, none⟩)) := cell_of_heap Hbz.out.1 rfl
  have b0 : wz.cell? ⟨be, 0, none⟩ = some (.pointer (some ⟨d2.b, 0, none⟩)) := cell_of_heap hmz.ev rfl
  have m4 : wz.cell? ⟨d2.b, 4, none⟩ = some (.map (some d2.br)) := cell_of_heap hmz.mem.box rfl
  have e0 : wz.cell? ⟨w.heap.size + 1, 0, none⟩ = some (.int .i64 1) := cell_of_heap Hbz.out.2.1 rfl
  have e1 : wz.cell? ⟨w.heap.size + 1, 1, none⟩ = some (.int .i64 (q : Int)) := cell_of_heap Hbz.out.2.1 rfl
  have e2 : wz.cell? ⟨w.heap.size + 1, 2, none⟩ = some (.int .i64 0) := cell_of_heap Hbz.out.2.1 rfl
  have r0 : wz.cell? ⟨w4.heap.size + 1, 0, none⟩ = some (.pointer (some ⟨w4.heap.size, 0, none⟩)) := cell_of_heap Hbz.out.2.2 rfl
  have Hcrn := Lib.hid hcrn
  clear hmz hcrn
  refine wp_region_U (fun w' => w'.cell? ⟨w.heap.size, 0, none⟩ = some (.pointer (some ⟨be, 0, none⟩)) ∧ w'.cell? ⟨be, 0, none⟩ = some (.pointer (some ⟨d2.b, 0, none⟩)) ∧ w'.cell? ⟨d2.b, 4, none⟩ = some (.map (some d2.br)) ∧ w'.cell? ⟨w.heap.size + 1, 0, none⟩ = some (.int .i64 1) ∧ w'.cell? ⟨w.heap.size + 1, 1, none⟩ = some (.int .i64 (q : Int)) ∧ w'.cell? ⟨w.heap.size + 1, 2, none⟩ = some (.int .i64 0) ∧ w'.cell? ⟨w4.heap.size + 1, 0, none⟩ = some (.pointer (some ⟨w4.heap.size, 0, none⟩))) (fun _ => True) 14 (by kernel_rfl) ?_
  intro wt hwt
  have hct : Chg [] wz wt := by rw [hwt]; exact (Chg.refl _ _).drew
  have hSW := And.intro ((hct.cell (lt_of_cell c0) (by simp)).trans c0) (And.intro ((hct.cell (lt_of_cell b0) (by simp)).trans b0) (And.intro ((hct.cell (lt_of_cell m4) (by simp)).trans m4) (And.intro ((hct.cell (lt_of_cell e0) (by simp)).trans e0) (And.intro ((hct.cell (lt_of_cell e1) (by simp)).trans e1) (And.intro ((hct.cell (lt_of_cell e2) (by simp)).trans e2) ((hct.cell (lt_of_cell r0) (by simp)).trans r0))))))
  obtain ⟨wb, hwb⟩ : ∃ x, x = wt.alloc (.cells #[.pointer (some ⟨w4.heap.size, 0, none⟩)] 94) := ⟨_, rfl⟩
  have hcb : Chg [] wt wb := by rw [hwb]; exact (Chg.refl _ _).alloc _
  have hrowb : wb.heap[wt.heap.size]? = some (.cells #[.pointer (some ⟨w4.heap.size, 0, none⟩)] 94 (0, 0)) := by rw [hwb]; exact heap_at _ _ _ rfl
  have hEb := Hend.out.1.new (hct.trans hcb)
  have hMb := hEb.mem.R
  simp only at hMb
  have hkok : Inp.QKok (1, (q : Int), 0) := qryKok (qk_lt hqN) (by have := hp.size; omega)
  obtain ⟨o, st, hent, -, hstore⟩ := entry_update Inp.qkeyed Inp.qk_inj Try.underlying78 zeroRs hMb.mp (Inp.qkOk hkok)
  have hgE : (aget (gE d2.RL) (1, (q : Int), 0)).getD (.slice none 0 0) = gV d2.RL (1, (q : Int), 0) := by
    rw [gE_get]; unfold gV; rfl
  rw [hgE] at hent
  unfold Inp.qk goInt at hent
  unfold goInt at hstore
  simp only at hent
  obtain ⟨va, vcap, hgv⟩ := ownsRow_shape (hMb.row (1, (q : Int), 0))
  obtain ⟨m, hmm⟩ : ∃ m, m = (gL d2.RL (1, (q : Int), 0)).length := ⟨_, rfl⟩
  rw [← hmm] at hgv hfew
  rw [hgv] at hent
  obtain ⟨we2, hwe2⟩ : ∃ x, x = setBlock wb d2.br o := ⟨_, rfl⟩
  have hcs : ChgP (fun g => g = d2.br) wb we2 := by rw [hwe2]; exact (ChgP.refl (fun g => g = d2.br) wb).setBlock (Or.inl rfl) o
  have hbr2 : we2.heap[d2.br]? = some o := by
    rw [hwe2]
    obtain ⟨arr', clk', h1, _⟩ := hMb.mp
    exact heap_setBlock_same h1 _
  have hnbr : ∀ {g : Nat} {c : Array Value} {T : TypeId} {fr : Nat × Nat}, wb.heap[g]? = some (.cells c T fr) → g ≠ d2.br := fun {g c T fr} hg e => by
    have h1 := tyAt_map hMb.mp
    rw [← e, tyAt_cells hg] at h1
    cases h1
  have hrow2 : we2.ownsRow 0 94 1 (.slice va m vcap) m (encR (gL d2.RL (1, (q : Int), 0))) := by
    have h1 := hMb.row (1, (q : Int), 0)
    rw [hgv, ← hmm] at h1
    exact ownsRow_kept h1 fun g hg hl => hcs.block g hl (by obtain ⟨cur, h2⟩ := own_at h1 hg; exact hnbr h2)
  have hnown : ∀ g, (Value.slice va m vcap).ownBlock = some g → g ≠ d2.br := fun g hg => by
    have h1 := hMb.row (1, (q : Int), 0)
    rw [hgv, ← hmm] at h1
    obtain ⟨cur, h2⟩ := own_at h1 hg
    exact hnbr h2
  have hB : ∀ {g : Nat} {c : Array Value} {T : TypeId}, wz.heap[g]? = some (.cells c T (0, 0)) → we2.heap[g]? = some (.cells c T (0, 0)) := fun {g c T} hg => by
    have h1 := (hcb.block g (Nat.lt_of_lt_of_le (lt_of_obj hg) hct.size) (by simp)).trans ((hct.block g (lt_of_obj hg) (by simp)).trans hg)
    exact (hcs.block g (lt_of_obj h1) (hnbr h1)).trans h1
  have hneo : ∀ {g : Nat} {c : Array Value} {T : TypeId}, we2.heap[g]? = some (.cells c T (0, 0)) → T ≠ 94 → ¬ (Value.slice va m vcap).ownBlock = some g := fun {g c T} hg hT e => by
    have h1 := tyAt_own hrow2 e
    rw [tyAt_cells hg] at h1
    exact hT (Option.some.inj (Option.some.inj h1))
  have hcro : ¬ (Value.slice va m vcap).ownBlock = some (w4.heap.size + 1) := by rw [← hgv]; exact Hcrn.out
  have hev2 := hB Hbz.out.1
  have hkb2 := hB Hbz.out.2.1
  have hcr2 := hB Hbz.out.2.2
  have hbe2 := hB Hend.out.1.ev
  have hbb2 := hB Hend.out.1.mem.box
  have Hmm := Lib.hid hmm
  clear hmm
  have hnews2 := (hcs.block _ (lt_of_obj hrowb) (hnbr hrowb)).trans hrowb
  have hSb := And.intro ((hcb.cell (lt_of_cell hSW.1) (by simp)).trans hSW.1) (And.intro ((hcb.cell (lt_of_cell hSW.2.1) (by simp)).trans hSW.2.1) (And.intro ((hcb.cell (lt_of_cell hSW.2.2.1) (by simp)).trans hSW.2.2.1) (And.intro ((hcb.cell (lt_of_cell hSW.2.2.2.1) (by simp)).trans hSW.2.2.2.1) (And.intro ((hcb.cell (lt_of_cell hSW.2.2.2.2.1) (by simp)).trans hSW.2.2.2.2.1) (And.intro ((hcb.cell (lt_of_cell hSW.2.2.2.2.2.1) (by simp)).trans hSW.2.2.2.2.2.1) ((hcb.cell (lt_of_cell hSW.2.2.2.2.2.2) (by simp)).trans hSW.2.2.2.2.2.2))))))
  have hcne : ∀ {a : Addr} {v : Value}, wb.cell? a = some v → a.block ≠ d2.br := fun {a v} ha e => by
    obtain ⟨arr', clk', h1, _⟩ := hMb.mp
    unfold World.cell? at ha
    rw [e, h1] at ha
    simp at ha
  have hSc := And.intro ((hcs.cell (lt_of_cell hSb.1) (hcne hSb.1)).trans hSb.1) (And.intro ((hcs.cell (lt_of_cell hSb.2.1) (hcne hSb.2.1)).trans hSb.2.1) (And.intro ((hcs.cell (lt_of_cell hSb.2.2.1) (hcne hSb.2.2.1)).trans hSb.2.2.1) (And.intro ((hcs.cell (lt_of_cell hSb.2.2.2.1) (hcne hSb.2.2.2.1)).trans hSb.2.2.2.1) (And.intro ((hcs.cell (lt_of_cell hSb.2.2.2.2.1) (hcne hSb.2.2.2.2.1)).trans hSb.2.2.2.2.1) (And.intro ((hcs.cell (lt_of_cell hSb.2.2.2.2.2.1) (hcne hSb.2.2.2.2.2.1)).trans hSb.2.2.2.2.2.1) ((hcs.cell (lt_of_cell hSb.2.2.2.2.2.2) (hcne hSb.2.2.2.2.2.2)).trans hSb.2.2.2.2.2.2))))))
  have Hct := Lib.hid hct
  clear hwt hct c0 b0 m4 e0 e1 e2 r0
  refine anyU_take (i := 0) (v := .pointer (some ⟨be, 0, none⟩)) rfl (by kernel_rfl) (fun _ _ _ h => h) (Or.inl ⟨by rfl, fun w' hS => by go_simp⟩) hSW trivial ?_
  simp only [Act.put, List.setIfInBounds_toArray, List.set_cons_zero, List.set_cons_succ]
  refine anyU_pure (i := 1) (v := .pointer (some ⟨be, 0, none⟩)) rfl (by kernel_rfl) (fun _ _ _ h => h) (Or.inl ⟨by rfl, fun w' hS => by go_simp⟩) (fun _ => hSW) trivial ?_
  simp only [Act.put, List.setIfInBounds_toArray, List.set_cons_zero, List.set_cons_succ]
  refine anyU_pure (i := 2) (v := .pointer (some ⟨be, 0, none⟩)) rfl (by kernel_rfl) (fun _ _ _ h => h) (Or.inl ⟨by rfl, fun w' hS => by go_simp⟩) (fun _ => hSW) trivial ?_
  simp only [Act.put, List.setIfInBounds_toArray, List.set_cons_zero, List.set_cons_succ]
  refine anyU_take (i := 3) (v := .pointer (some ⟨d2.b, 0, none⟩)) rfl (by kernel_rfl) (fun _ _ _ h => h) (Or.inl ⟨by rfl, fun w' hS => by go_simp⟩) hSW trivial ?_
  simp only [Act.put, List.setIfInBounds_toArray, List.set_cons_zero, List.set_cons_succ]
  refine anyU_pure (i := 4) (v := .pointer (some ⟨d2.b, 0, none⟩)) rfl (by kernel_rfl) (fun _ _ _ h => h) (Or.inl ⟨by rfl, fun w' hS => by go_simp⟩) (fun _ => hSW) trivial ?_
  simp only [Act.put, List.setIfInBounds_toArray, List.set_cons_zero, List.set_cons_succ]
  refine anyU_pure (i := 5) (v := .pointer (some ⟨d2.b, 4, none⟩)) rfl (by kernel_rfl) (fun _ _ _ h => h) (Or.inl ⟨by rfl, fun w' hS => by go_simp⟩) (fun _ => hSW) trivial ?_
  simp only [Act.put, List.setIfInBounds_toArray, List.set_cons_zero, List.set_cons_succ]
  refine anyU_take (i := 6) (v := .map (some d2.br)) rfl (by kernel_rfl) (fun _ _ _ h => h) (Or.inl ⟨by rfl, fun w' hS => by go_simp⟩) hSW trivial ?_
  simp only [Act.put, List.setIfInBounds_toArray, List.set_cons_zero, List.set_cons_succ]
  refine anyU_take (i := 7) (v := .agg #[.int .i64 1, .int .i64 (q : Int), .int .i64 0]) rfl (by kernel_rfl) (fun _ _ _ h => h) (Or.inl ⟨by rfl, fun w' hS => by go_simp⟩) hSW trivial ?_
  simp only [Act.put, List.setIfInBounds_toArray, List.set_cons_zero, List.set_cons_succ]
  refine anyU_take (i := 8) (v := .pointer (some ⟨w4.heap.size, 0, none⟩)) rfl (by kernel_rfl) (fun _ _ _ h => h) (Or.inl ⟨by rfl, fun w' hS => by go_simp⟩) hSW trivial ?_
  simp only [Act.put, List.setIfInBounds_toArray, List.set_cons_zero, List.set_cons_succ]
  refine anyU_one (k := 9) (by kernel_rfl) rfl (fun K hK => ?_)
  go_simp
  rw [← hwb]
  refine hK _ _ (fun _ => hSb) trivial ?_
  clear hK K hwb
  refine anyU_one (k := 10) (by kernel_rfl) rfl (fun K hK => ?_)
  go_simp
  rw [← hwe2]
  refine hK _ _ (fun _ => hSc) trivial ?_
  have Hwe2 := Lib.hid hwe2
  clear hK K hent hwe2
  refine anyU_pure (i := 11) (v := .slice va m vcap) rfl (by kernel_rfl) (fun _ _ _ h => h) (Or.inl ⟨by rfl, fun w' hS => by go_simp⟩) (fun _ => hSc) trivial ?_
  simp only [Act.put, List.setIfInBounds_toArray, List.set_cons_zero, List.set_cons_succ]
  refine anyU_pure (i := 13) (v := .int .i64 (st : Int)) rfl (by kernel_rfl) (fun _ _ _ h => h) (Or.inl ⟨by rfl, fun w' hS => by go_simp⟩) (fun _ => hSc) trivial ?_
  simp only [Act.put, List.setIfInBounds_toArray, List.set_cons_zero, List.set_cons_succ]
  obtain ⟨j0, hj0, hy0, hy1, hy2⟩ := info_parts infoRes
  have Hj0 := Lib.hid hj0
  have Hy0 := Lib.hid hy0
  have Hy1 := Lib.hid hy1
  have Hy2 := Lib.hid hy2
  clear hj0 hy0 hy1 hy2
  refine anyU_one (k := 12) (by kernel_rfl) rfl (fun K hK => ?_)
  refine step_append_lies _ (by rfl) _ _ _ (by rfl) 0 94 j0 (.pointer none) 1 8 Try.underlying106 Hj0.out Hy0.out Hy1.out Hy2.out rfl (by omega) (.slice va m vcap) m (encR (gL d2.RL (1, (q : Int), 0))) (by rfl) hrow2 ⟨wt.heap.size, 0, none⟩ 1 1 [.pointer (some ⟨w4.heap.size, 0, none⟩)] (by rfl) (by rfl) (World.news_of_block (cs := #[.pointer (some ⟨w4.heap.size, 0, none⟩)]) (t := 94) (fr := (0, 0)) hnews2) (by simp [Value.oneCell']) (by omega) (by unfold maxLen; omega) (by omega) (Nat.zero_le _) we2.heap.size (by simp) ?_
  intro ggr capr wr hownr hgrr hatr hltr
  have hcr := (ChgP.refl (fun g => (Value.slice va m vcap).ownBlock = some g) we2).grown hgrr (fun k h => Or.inl h)
  have hbrr := (hcr.block _ (lt_of_obj hbr2) (fun e => hnown _ e rfl)).trans hbr2
  obtain ⟨o', hst', hmap'⟩ := hstore wr (.slice (some ⟨ggr, 0, none⟩) (m + 1) capr) hbrr
  have hevr := (hcr.block _ (lt_of_obj hev2) (hneo hev2 (by decide))).trans hev2
  have hkbr := (hcr.block _ (lt_of_obj hkb2) (hneo hkb2 (by decide))).trans hkb2
  have hcrr := (hcr.block _ (lt_of_obj hcr2) hcro).trans hcr2
  have hber := (hcr.block _ (lt_of_obj hbe2) (hneo hbe2 (by decide))).trans hbe2
  have hbbr := (hcr.block _ (lt_of_obj hbb2) (hneo hbb2 (by decide))).trans hbb2
  have hSr : wr.cell? ⟨w.heap.size, 0, none⟩ = some (.pointer (some ⟨be, 0, none⟩)) ∧ wr.cell? ⟨be, 0, none⟩ = some (.pointer (some ⟨d2.b, 0, none⟩)) ∧ wr.cell? ⟨d2.b, 4, none⟩ = some (.map (some d2.br)) ∧ wr.cell? ⟨w.heap.size + 1, 0, none⟩ = some (.int .i64 1) ∧ wr.cell? ⟨w.heap.size + 1, 1, none⟩ = some (.int .i64 (q : Int)) ∧ wr.cell? ⟨w.heap.size + 1, 2, none⟩ = some (.int .i64 0) ∧ wr.cell? ⟨w4.heap.size + 1, 0, none⟩ = some (.pointer (some ⟨w4.heap.size, 0, none⟩)) := ⟨cell_of_heap hevr rfl, cell_of_heap hber rfl, cell_of_heap hbbr rfl, cell_of_heap hkbr rfl, cell_of_heap hkbr rfl, cell_of_heap hkbr rfl, cell_of_heap hcrr rfl⟩
  have hcrf : (setBlock wr d2.br o').cell? ⟨w4.heap.size + 1, 0, none⟩ = some (.pointer (some ⟨w4.heap.size, 0, none⟩)) := (cell_setBlock (fun e => by
    have h1 := lt_of_obj hbrr
    exact hnbr ((hcb.block _ (Nat.lt_of_lt_of_le (lt_of_obj Hbz.out.2.2) Hct.out.size) (by simp)).trans ((Hct.out.block _ (lt_of_obj Hbz.out.2.2) (by simp)).trans Hbz.out.2.2)) e)).trans hSr.2.2.2.2.2.2
  have hsz : wz.heap.size ≤ we2.heap.size := by have h1 := Hct.out.size; have h2 := hcb.size; have h3 := hcs.size; omega
  have hfinal := Hend.out.2.2.2 wr (.slice (some ⟨ggr, 0, none⟩) (m + 1) capr) o' (by rw [← Hmm.out]; exact hownr)
    ((((Hct.out.trans hcb).p (S := fun g => (gV d2.RL (1, (q : Int), 0)).ownBlock = some g ∨ g = d2.br)).comp hcs fun g hg => Or.inl (Or.inr hg)).comp hcr fun g hg => Or.inl (Or.inl (by rw [hgv]; exact hg)))
    (fun g hg => by
      simp only [Value.ownBlock, Option.some.injEq] at hg
      subst hg
      rw [hgv]
      exact hatr.imp id fun e => by omega) hmap'
  have Hfinal := Lib.hid hfinal
  clear hfinal hownr hgrr hatr hltr hcr hmap' hstore hrow2 hnews2 hev2 hkb2 hcr2 hbe2 hbb2 hevr hkbr hcrr hber hbbr hSc hSb hSW hMb hEb hcs hcb hbr2 hbrr
  refine hK _ _ (fun _ => hSr) trivial ?_
  clear hK K
  refine anyU_one (k := 14) (by kernel_rfl) rfl (fun K hK => ?_)
  go_simp
  refine hK _ _ (fun h => by simp at h) trivial ?_
  clear hK K hst' hSr
  refine anyU_done (by kernel_rfl) ?_
  obtain ⟨wf, hwf⟩ : ∃ x, x = setBlock wr d2.br o' := ⟨_, rfl⟩
  rw [← hwf] at hcrf ⊢
  have Hwf := Lib.hid hwf
  clear hwf
  go_wp2_with fail
  go_ret
  obtain ⟨d4, hN, hmem, hpl4⟩ := Hfinal.out
  rw [← Hwf.out] at hN
  have hcp : compP p.qs (RQ p.qs rev n) rev d.pl (1, (q : Int), 0) = (⟨f2, l2, xs, ins2⟩, putR d2.pl (1, (q : Int), 0) ⟨f2, l2, xs, ins2⟩) := by
    unfold compP
    rw [Hcq.out.1, Hxs.out]
  exact ⟨d4, _, ⟨w4.heap.size, f2, l2, a3, c3, xs, iv2, ins2⟩, hN, by rw [hcp]; exact hpl4, by rw [hcp]; rfl, hmem, rfl⟩
end
end Go.Proofs.Ytggiddhhbilcjaa.Sn
