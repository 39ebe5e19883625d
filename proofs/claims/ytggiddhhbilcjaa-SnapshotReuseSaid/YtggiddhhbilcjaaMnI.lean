/- recompute. -/
import Derived.Test.YtggiddhhbilcjaaGe
import Derived.Test.YtggiddhhbilcjaaStill
namespace Go.Proofs.Ytggiddhhbilcjaa
open Go.RowKit Go.ChangeMaps Go.MapKept
set_option linter.unusedVariables false
set_option linter.unusedSimpArgs false
section
variable {P : Program} (w : World)
theorem run_equalIn_func_nil (d : Nat) (t : TypeId) (ps rs : Array TypeId) (vd : Bool) (f : Fn) (b c : Array Value) (h : P.underlying t = some (.func ps rs vd)) : (Op.equalIn (d + 1) t (.func f b c) .nilFunc).run P w = .ok false w := by
  simp [Op.equalIn, run_underlying h]
theorem run_eql_func_nil (t : TypeId) (ps rs : Array TypeId) (vd : Bool) (f : Fn) (b c : Array Value) (h : P.underlying t = some (.func ps rs vd)) : (binOp .eql t (.func f b c) .nilFunc).run P w = .ok (.bool false) w := by
  simp only [binOp]
  simp [show Op.equal t (.func f b c) .nilFunc = Op.equalIn (9999 + 1) t (.func f b c) .nilFunc from rfl, run_equalIn_func_nil w 9999 t ps rs vd f b c h]
theorem run_neq_func_nil (t : TypeId) (ps rs : Array TypeId) (vd : Bool) (f : Fn) (b c : Array Value) (h : P.underlying t = some (.func ps rs vd)) : (binOp .neq t (.func f b c) .nilFunc).run P w = .ok (.bool true) w := by
  simp only [binOp]
  simp [show Op.equal t (.func f b c) .nilFunc = Op.equalIn (9999 + 1) t (.func f b c) .nilFunc from rfl, run_equalIn_func_nil w 9999 t ps rs vd f b c h]
theorem run_equalIn_nil_nil (d : Nat) (t : TypeId) (ps rs : Array TypeId) (vd : Bool) (h : P.underlying t = some (.func ps rs vd)) : (Op.equalIn (d + 1) t .nilFunc .nilFunc).run P w = .ok true w := by
  simp [Op.equalIn, run_underlying h]
theorem run_neq_nil_nil (t : TypeId) (ps rs : Array TypeId) (vd : Bool) (h : P.underlying t = some (.func ps rs vd)) : (binOp .neq t .nilFunc .nilFunc).run P w = .ok (.bool false) w := by
  simp only [binOp]
  simp [show Op.equal t .nilFunc .nilFunc = Op.equalIn (9999 + 1) t .nilFunc .nilFunc from rfl, run_equalIn_nil_nil w 9999 t ps rs vd h]
end
/-- what recompute leaves: as 'Next', but for its own key -/
structure NextX (x : QK) (b : Nat) (w w' : World) (d d' : Dm) : Prop where
  mem : DmAt w' b d'
  chg : ChgP (fun g => g ∈ d.muts b) w w'
  muts : ∀ g ∈ d'.muts b, g ∈ d.muts b ∨ w.heap.size ≤ g
  imms : ∀ g ∈ d'.imms, g ∈ d.imms ∨ w.heap.size ≤ g
  comp : d'.comp = d.comp
  stop : d'.stop = d.stop
  store : d'.S = d.S
  bs : d'.bs = d.bs
  bsm : d'.bsm = d.bsm
  br : d'.br = d.br
  ba : d'.ba = d.ba
  busy : ∀ k v, aget d.act k = some v → aget d'.act k = some v ∧ (k ≠ x → aget d'.es k = aget d.es k)
theorem Next.toX {b : Nat} {w w' : World} {d d' : Dm} (h : Next b w w' d d') (x : QK) : NextX x b w w' d d' :=
  ⟨h.mem, h.chg, h.muts, h.imms, h.comp, h.stop, h.store, h.bs, h.bsm, h.br, h.ba, fun k v hk => ⟨(h.busy k v hk).1, fun _ => (h.busy k v hk).2⟩⟩
/-- what recompute brings -/
def RPost (U : PS → QK → Except Int Unit × PS) (ch : Int → List PanicEntry) (b : Nat) (k : QK) (w : World) (d : Dm) (e : Ending) (w' : World) : Prop :=
  ∃ d', NextX k b w w' d d' ∧ d'.pl = (U d.pl k).2 ∧ match (U d.pl k).1 with
    | .ok _ => ∃ r, aget d'.es k = some r ∧ e = .returned r.val
    | .error x => e = .panicked (ch x)
theorem RPost.mkErr {U : PS → QK → Except Int Unit × PS} {ch : Int → List PanicEntry} {b : Nat} {k : QK} {w w' : World} {d d' : Dm} {e : Ending} {x : Int} (hu : U d.pl k = (.error x, d'.pl)) (hn : Next b w w' d d') (he : e = .panicked (ch x)) : RPost U ch b k w d e w' := by
  refine ⟨d', hn.toX k, by rw [hu], ?_⟩
  rw [hu]
  exact he
theorem RPost.ok {U : PS → QK → Except Int Unit × PS} {ch : Int → List PanicEntry} {b : Nat} {k : QK} {w w' : World} {d : Dm} {e : Ending} (h : RPost U ch b k w d e w') {u : Unit} {s' : PS} (hu : U d.pl k = (.ok u, s')) :
    ∃ d' r, e = .returned r.val ∧ NextX k b w w' d d' ∧ d'.pl = s' ∧ aget d'.es k = some r := by
  obtain ⟨d', h1, h2, h3⟩ := h
  rw [hu] at h2 h3
  obtain ⟨r, h4, h5⟩ := h3
  exact ⟨d', r, h5, h1, h2, h4⟩
theorem RPost.err {U : PS → QK → Except Int Unit × PS} {ch : Int → List PanicEntry} {b : Nat} {k : QK} {w w' : World} {d : Dm} {e : Ending} (h : RPost U ch b k w d e w') {x : Int} {s' : PS} (hu : U d.pl k = (.error x, s')) :
    ∃ d', e = .panicked (ch x) ∧ NextX k b w w' d d' ∧ d'.pl = s' := by
  obtain ⟨d', h1, h2, h3⟩ := h
  rw [hu] at h2 h3
  exact ⟨d', h3, h1, h2⟩
theorem Next.side {b : Nat} {w w5 w6 : World} {d d2 : Dm} {rb : Nat} (hn : Next b w w5 d d2) (hc : ChgP (fun g => g = rb) w5 w6) (h1 : rb ∉ d2.muts b) (h2 : rb ∉ d2.imms) (h3 : w.heap.size ≤ rb) : Next b w w6 d d2 :=
  ⟨hn.mem.kept hc (fun g hg e => h1 (e ▸ hg)) (fun g hg e => h2 (e ▸ hg)), hn.chg.comp hc fun g hg => Or.inr (hg ▸ h3), hn.muts, hn.imms, hn.comp, hn.stop, hn.store, hn.bs, hn.bsm, hn.br, hn.ba, hn.busy⟩
theorem ptr_zero (w : World) : (zeroValue 154).run Try.prog w = .ok (.pointer none) w := by kernel_rfl
/-- recompute's end -/
theorem rec_end {U : PS → QK → Except Int Unit × PS} {b : Nat} {k : QK} {w w5 : World} {d d2 : Dm} {r : Rs} {o : Obj} {n : Int} (hn : Next b w w5 d d2) (hr : RsAt w5 r) (hri : ∀ g ∈ r.imm, g ∉ d2.muts b ∧ g ≠ r.blk ∧ g < w5.heap.size) (h1 : r.blk ∉ d2.muts b) (h2 : r.blk ∉ d2.imms) (h3 : w.heap.size ≤ r.blk) (h4 : ∀ g ∈ r.imm, w.heap.size ≤ g)
    (hm : MapAt Try.prog 43 Inp.qk (setBlock w5 d2.br o) d2.br (ups (amap Rs.val d2.es) k r.val)) (hU : U d.pl k = (.ok (), { d2.pl with es := ups d2.pl.es k r.pl, cnt := n })) :
    RPost U chI b k w d (.returned r.val) ((setBlock w5 d2.br o).setCell ⟨b, 5, none⟩ (.int .i64 n)) := by
  have hput := hn.mem.put (n := n) hr h1 h2 hri hm
  have hc : ChgP (fun g => g = d2.br ∨ g = b) w5 ((setBlock w5 d2.br o).setCell ⟨b, 5, none⟩ (.int .i64 n)) := ((ChgP.refl (fun g => g = d2.br ∨ g = b) w5).setBlock (Or.inl (Or.inl rfl)) o).setCell (p := ⟨b, 5, none⟩) (Or.inl (Or.inr rfl)) _
  refine ⟨{ d2 with es := ups d2.es k r, cnt := n }, ⟨hput, hn.chg.comp hc fun g hg => Or.inl ?_, fun g hg => ?_, fun g hg => ?_, hn.comp, hn.stop, hn.store, hn.bs, hn.bsm, hn.br, hn.ba, fun x v hx => ⟨(hn.busy x v hx).1, fun hne => ?_⟩⟩, ?_, ?_⟩
  · rcases hg with rfl | rfl
    · rw [hn.br]; simp [Dm.muts]
    · simp [Dm.muts]
  · have hg' : g = r.blk ∨ g ∈ d2.muts b := by
      unfold Dm.muts at hg ⊢
      simp only [List.mem_cons] at hg ⊢
      rcases hg with e | e | e | e | e | hg
      · simp [e]
      · simp [e]
      · simp [e]
      · simp [e]
      · simp [e]
      · rcases map_ups_blk g hg with e | e
        · exact Or.inl e
        · simp [e]
    rcases hg' with rfl | hg'
    · exact Or.inr h3
    · exact hn.muts g hg'
  · rcases List.mem_append.1 hg with hg | hg
    · exact hn.imms g (List.mem_append_left _ hg)
    · rcases mem_ups_imms hg with hg | hg
      · exact Or.inr (h4 g hg)
      · exact hn.imms g (List.mem_append_right _ hg)
  · rw [← (hn.busy x v hx).2]
    show aget (ups d2.es k r) x = _
    rw [aget_ups, if_neg (Ne.symm hne)]
  · rw [hU]
    show Dm.pl _ = _
    unfold Dm.pl
    simp only
    rw [ups_amap]
  · rw [hU]
    exact ⟨r, by show aget (ups d2.es k r) k = _; rw [aget_ups, if_pos rfl], rfl⟩
section
variable {w0 : World} {RO : Nat → Prop} {b : Nat} {K : PS → QK → Prop} {Kc : QK → Prop} {Kk : QK → QK → Prop} {U : PS → QK → Except Int Unit × PS} {C : QK → (GS → QK → Except Int (List Int) × GS) → GS → Except Int (List Int) × GS} {cf sf : Nat} {ccaps sfirst scaps : Array Value} {sb : PS → Bool}
variable {stp : PS → Bool}
theorem recompP_stop {s : PS} {k : QK} (h : stp s = true) : recompP U C stp s k = (.error 12, s) := by unfold recompP; rw [if_pos h]
theorem recompP_err {s s' : PS} {k : QK} {x : Int} {g : List QK × Int} (h : stp s = false) (e : C k (getP U) (s, [], 2) = (.error x, (s', g))) : recompP U C stp s k = (.error x, s') := by
  unfold recompP; rw [if_neg (by rw [h]; simp), e]
theorem recompP_ok {s s' : PS} {k : QK} {xs : List Int} {deps : List QK} {dur : Int} (h : stp s = false) (e : C k (getP U) (s, [], 2) = (.ok xs, (s', deps, dur))) :
    recompP U C stp s k = (.ok (), { s' with es := ups s'.es k (newRes s' k s.rev xs deps dur), cnt := wrap64 (s'.cnt + 1) }) := by
  unfold recompP; rw [if_neg (by rw [h]; simp), e]
set_option maxRecDepth 100000 in
set_option maxHeartbeats 8000000 in
theorem recompute_nil (fam : UFam w0 RO b (.func (.func cf) #[] ccaps) .nilFunc K U chI) (cfam : CFam w0 RO cf ccaps C chI Kc Kk) (key : QK) (v : Int) (hkc : Kc key) (hkey : Inp.QKok key) (fin : ∀ l : List QK, l.Nodup → (∀ k ∈ l, Kk key k) → l.length ≤ 1000)
    (w : World) (d : Dm) (h : Env w0 RO b w d) (hc : d.comp = .func (.func cf) #[] ccaps) (hs : d.stop = .nilFunc) (ha : aget d.act key = some v) (hks : ∀ k, Kk key k → Inp.QKok k ∧ (k.1 ≠ 0 → K d.pl k)) :
    Calls Try.prog 93 #[.pointer (some ⟨b, 0, none⟩), i3v key] w (RPost (recompP U C (fun _ => false)) chI b key w d) := by
  obtain ⟨k1, k2, k3⟩ := key
  have q0 : w.cell? ⟨b, 0, none⟩ = some (.func (.func cf) #[] ccaps) := (cell_of_heap h.mem.blk (i := 0) rfl).trans (by rw [← hc]; rfl)
  have q1 : w.cell? ⟨b, 1, none⟩ = some (.pointer (some ⟨d.bs, 0, none⟩)) := cell_of_heap h.mem.blk rfl
  have q4 : w.cell? ⟨b, 4, none⟩ = some .nilFunc := (cell_of_heap h.mem.blk (i := 4) rfl).trans (by rw [← hs]; rfl)
  have lb : b < w.heap.size := lt_of_cell q0
  have nb := World.new_ne w _ q0
  have lb1 : b < w.heap.size + 1 := by omega
  have lb2 : b < w.heap.size + 1 + 1 := by omega
  have hcA : Chg [] w ((w.alloc (.cells #[.pointer (some ⟨b, 0, none⟩)] 60)).alloc (.cells #[.int .i64 k1, .int .i64 k2, .int .i64 k3] 43)) := ((Chg.refl [] w).alloc _).alloc _
  have HcA := Lib.hid hcA
  have Hst := Lib.hid (h.mem.store.same hcA)
  have Hdb := Lib.hid (show ((w.alloc (.cells #[.pointer (some ⟨b, 0, none⟩)] 60)).alloc (.cells #[.int .i64 k1, .int .i64 k2, .int .i64 k3] 43)).heap[w.heap.size]? = some (.cells #[.pointer (some ⟨b, 0, none⟩)] 60 (0, 0)) from (heap_past _ _ _ (by simp)).trans (heap_at _ _ _ rfl))
  have Hkb := Lib.hid (show ((w.alloc (.cells #[.pointer (some ⟨b, 0, none⟩)] 60)).alloc (.cells #[.int .i64 k1, .int .i64 k2, .int .i64 k3] 43)).heap[w.heap.size + 1]? = some (.cells #[.int .i64 k1, .int .i64 k2, .int .i64 k3] 43 (0, 0)) from heap_at _ _ _ (by simp))
  have heq := run_neq_nil_nil (P := Try.prog) (w.alloc (.cells #[.pointer (some ⟨b, 0, none⟩)] 60) |>.alloc (.cells #[.int .i64 k1, .int .i64 k2, .int .i64 k3] 43)) _ _ _ _ Try.underlying26
  have H := Lib.hid h
  have Hc := Lib.hid hc
  have Hs := Lib.hid hs
  have Ha := Lib.hid ha
  have Hks := Lib.hid hks
  have Hkey := Lib.hid hkey
  clear h hc hs ha hks hcA hkey
  unfold i3v
  go_enter Try.func93, Try.ntmps93
  go_wp2_with fail
  refine (revision_q _ _ _ _ Hst.out).mono ?_
  rintro e wq ⟨rfl, hwq⟩
  have hcQ : Chg [] w wq := by rw [hwq]; exact HcA.out
  have hdb : wq.heap[w.heap.size]? = some (.cells #[.pointer (some ⟨b, 0, none⟩)] 60 (0, 0)) := by rw [hwq]; exact Hdb.out
  have hkb : wq.heap[w.heap.size + 1]? = some (.cells #[.int .i64 k1, .int .i64 k2, .int .i64 k3] 43 (0, 0)) := by rw [hwq]; exact Hkb.out
  clear hwq heq Hdb Hkb
  go_wp2_with fail
  obtain ⟨wr, hwr⟩ : ∃ x, x = ((wq.alloc (.cells #[.slice none 0 0, .string ⟨#[]⟩, .int .i64 d.S.rev, .int .i64 d.S.rev, .int .i64 2, .slice none 0 0, .int .i64 0] 153)).alloc (.cells #[.pointer (some ⟨wq.heap.size, 0, none⟩)] 154)) := ⟨_, rfl⟩
  rw [← hwr]
  have hlq := hcQ.size
  have lk0 := lt_of_obj hdb
  have lk1 := lt_of_obj hkb
  have hcR : Chg [] wq wr := by rw [hwr]; exact ((Chg.refl [] wq).alloc _).alloc _
  have hres : wr.heap[wq.heap.size]? = some (.cells #[.slice none 0 0, .string ⟨#[]⟩, .int .i64 d.S.rev, .int .i64 d.S.rev, .int .i64 2, .slice none 0 0, .int .i64 0] 153 (0, 0)) := by rw [hwr]; exact (heap_past _ _ _ (by simp)).trans (heap_at _ _ _ rfl)
  have hcr : wr.heap[wq.heap.size + 1]? = some (.cells #[.pointer (some ⟨wq.heap.size, 0, none⟩)] 154 (0, 0)) := by rw [hwr]; exact heap_at _ _ _ (by simp)
  clear hwr
  have hdb' := (hcR.block _ lk0 (by simp)).trans hdb
  have hkb' := (hcR.block _ lk1 (by simp)).trans hkb
  have hcwr : Chg [] w wr := hcQ.trans hcR
  have hnm : ∀ g, w.heap.size ≤ g → g ∉ d.muts b ∧ g ∉ d.imms := fun g hg => ⟨fun hm => by have := H.out.mem.lt g hm; omega, fun hm => by have := H.out.mem.bound g hm; omega⟩
  have hnr : ∀ g, w.heap.size ≤ g → ¬ RO g := fun g hg hr => by have := (H.out.ro g hr).1; omega
  have hga : GAt w0 RO b K (Kk (k1, k2, k3)) w d w.heap.size (wq.heap.size + 1) wq.heap.size d.S.rev (d.pl, [], 2) wr d none 0 :=
    ⟨H.out.new hcwr, Next.new H.out.mem hcwr, rfl, hdb', hcr, hres, World.ownsRow_nil _ _ _ _, by simp, by simp, Hks.out, ⟨(hnm _ (by omega)).1, (hnm _ (by omega)).1⟩, ⟨(hnm _ (by omega)).1, (hnm _ (by omega)).2, hnr _ (by omega), by omega, by omega, by omega⟩, by simp [oblk]⟩
  have hgi : GI w0 RO b K (Kk (k1, k2, k3)) w d w.heap.size (wq.heap.size + 1) wq.heap.size d.S.rev (fun g => g = w.heap.size + 1) (d.pl, [], 2) wr :=
    ⟨d, none, 0, hga, fun g hg => by subst hg; exact ⟨by omega, (hnm _ (by omega)).1, (hnm _ (by omega)).2, by omega, by simp [oblk]⟩, fun g hg => by subst hg; exact lt_of_obj hkb'⟩
  refine wp_region_T (fun w' => w'.cell? ⟨wq.heap.size + 1, 0, none⟩ = some (.pointer (some ⟨wq.heap.size, 0, none⟩)) ∧ w'.cell? ⟨w.heap.size, 0, none⟩ = some (.pointer (some ⟨b, 0, none⟩)) ∧ w'.cell? ⟨b, 0, none⟩ = some (.func (.func cf) #[] ccaps) ∧ w'.cell? ⟨w.heap.size + 1, 0, none⟩ = some (.int .i64 k1) ∧ w'.cell? ⟨w.heap.size + 1, 1, none⟩ = some (.int .i64 k2) ∧ w'.cell? ⟨w.heap.size + 1, 2, none⟩ = some (.int .i64 k3)) 11 (by kernel_rfl) ?_
  intro wd hwd
  have hcd : Chg [] wr wd := by rw [hwd]; exact (Chg.refl _ _).drew
  have hgid : GI w0 RO b K (Kk (k1, k2, k3)) w d w.heap.size (wq.heap.size + 1) wq.heap.size d.S.rev (fun g => g = w.heap.size + 1) (d.pl, [], 2) wd := (hgi.keep (hcd.p (S := fun g => g = w.heap.size + 1 ∧ ¬ GRO RO w.heap.size (wq.heap.size + 1) g))).anti fun _ h => Or.inl h
  have hSW : wd.cell? ⟨wq.heap.size + 1, 0, none⟩ = some (.pointer (some ⟨wq.heap.size, 0, none⟩)) ∧ wd.cell? ⟨w.heap.size, 0, none⟩ = some (.pointer (some ⟨b, 0, none⟩)) ∧ wd.cell? ⟨b, 0, none⟩ = some (.func (.func cf) #[] ccaps) ∧ wd.cell? ⟨w.heap.size + 1, 0, none⟩ = some (.int .i64 k1) ∧ wd.cell? ⟨w.heap.size + 1, 1, none⟩ = some (.int .i64 k2) ∧ wd.cell? ⟨w.heap.size + 1, 2, none⟩ = some (.int .i64 k3) :=
    ⟨cell_of_heap ((hcd.block _ (lt_of_obj hcr) (by simp)).trans hcr) rfl, cell_of_heap ((hcd.block _ (lt_of_obj hdb') (by simp)).trans hdb') rfl, ((hcwr.trans hcd).cell (p := ⟨b, 0, none⟩) lb (by simp)).trans q0, cell_of_heap ((hcd.block _ (lt_of_obj hkb') (by simp)).trans hkb') rfl, cell_of_heap ((hcd.block _ (lt_of_obj hkb') (by simp)).trans hkb') rfl, cell_of_heap ((hcd.block _ (lt_of_obj hkb') (by simp)).trans hkb') rfl⟩
  have vfam := rget_fam (cdb := w.heap.size) (cr := wq.heap.size + 1) (rb := wq.heap.size) (ver := d.S.rev) (ws := w) (ds := d) fam ⟨Hc.out, Hs.out⟩ fin
  have Hcall := Lib.hid (cfam.call _ _ _ _ _ _ _ wd (k1, k2, k3) vfam hkc hgid (fun g hg => Or.inl hg) (fun g hg => (((hcwr.trans hcd).block g (H.out.ro g hg).1 (by simp)).trans (H.out.ro g hg).2.1)))
  have henter := cfam.enter
  have hmf : ∀ (fn : Fn) (first cap : Array Value) (w : World), (Instr.makeFunc fn first cap).run Try.prog w = .ok (.func fn first cap) w := fun _ _ _ _ => rfl
  have Hkb := Lib.hid ((hcd.block _ (lt_of_obj hkb') (by simp)).trans hkb')
  have Hsz := Lib.hid (And.intro hlq (And.intro lk0 lk1))
  clear hwd hgi hga hgid hdb hkb hdb' hkb' hcr hres hcR hcQ hcd hcwr hnm hnr vfam q0 q1 q4 nb lb1 lb2
  unfold i3v at Hcall
  refine anyT_take (i := 0) (v := .pointer (some ⟨wq.heap.size, 0, none⟩)) rfl (by kernel_rfl) (fun _ _ _ h => h) (Or.inl ⟨by rfl, fun w' hS => by go_simp⟩) hSW ?_
  simp only [Act.put, List.setIfInBounds_toArray, List.set_cons_zero, List.set_cons_succ]
  refine anyT_take (i := 1) (v := .pointer (some ⟨b, 0, none⟩)) rfl (by kernel_rfl) (fun _ _ _ h => h) (Or.inl ⟨by rfl, fun w' hS => by go_simp⟩) hSW ?_
  simp only [Act.put, List.setIfInBounds_toArray, List.set_cons_zero, List.set_cons_succ]
  refine anyT_pure (i := 2) (v := .pointer (some ⟨b, 0, none⟩)) rfl (by kernel_rfl) (fun _ _ _ h => h) (Or.inl ⟨by rfl, fun w' hS => by go_simp⟩) hSW ?_
  simp only [Act.put, List.setIfInBounds_toArray, List.set_cons_zero, List.set_cons_succ]
  refine anyT_pure (i := 3) (v := .pointer (some ⟨b, 0, none⟩)) rfl (by kernel_rfl) (fun _ _ _ h => h) (Or.inl ⟨by rfl, fun w' hS => by go_simp⟩) hSW ?_
  simp only [Act.put, List.setIfInBounds_toArray, List.set_cons_zero, List.set_cons_succ]
  refine anyT_take (i := 4) (v := .func (.func cf) #[] ccaps) rfl (by kernel_rfl) (fun _ _ _ h => h) (Or.inl ⟨by rfl, fun w' hS => by go_simp⟩) hSW ?_
  simp only [Act.put, List.setIfInBounds_toArray, List.set_cons_zero, List.set_cons_succ]
  refine anyT_take (i := 5) (v := .agg #[.int .i64 k1, .int .i64 k2, .int .i64 k3]) rfl (by kernel_rfl) (fun _ _ _ h => h) (Or.inl ⟨by rfl, fun w' hS => by go_simp⟩) hSW ?_
  simp only [Act.put, List.setIfInBounds_toArray, List.set_cons_zero, List.set_cons_succ]
  refine anyT_pure (i := 6) (v := .func (.func 107) #[] #[.pointer (some ⟨w.heap.size, 0, none⟩), .pointer (some ⟨wq.heap.size + 1, 0, none⟩)]) rfl (by kernel_rfl) (fun _ _ _ h => h) (Or.inl ⟨by rfl, fun w' hS => by go_simp⟩) hSW ?_
  simp only [Act.put, List.setIfInBounds_toArray, List.set_cons_zero, List.set_cons_succ]
  refine anyT_one (k := 7) (by kernel_rfl) rfl (fun K hK => ?_)
  go_simp
  refine Hcall.out.mono ?_
  rintro e w2 ⟨hp1, hp2, hp3⟩
  rcases hu : C (k1, k2, k3) (getP U) (d.pl, [], 2) with ⟨x | xs, s2, deps, dur⟩
  · rw [hu] at hp1 hp2
    simp only at hp1 hp2
    subst hp1
    obtain ⟨d2, da2, dcap2, hg2, _⟩ := hp2
    obtain rfl := hg2.pl
    exact ⟨rfl, RPost.mkErr (U := recompP U C (fun _ => false)) (recompP_err rfl hu) hg2.next rfl⟩
  · rw [hu] at hp1 hp2
    simp only at hp1 hp2
    obtain ⟨a, c, rfl, hints, hsize⟩ := hp1
    obtain ⟨d2, da2, dcap2, hg2, hF2, hFl2⟩ := hp2
    have hpl := hg2.pl
    simp only at hpl
    subst hpl
    have Hu := Lib.hid (recompP_ok (stp := fun _ => false) rfl hu)
    have hkb2 := (hp3.block _ (lt_of_obj Hkb.out) (fun h => h.1 rfl)).trans Hkb.out
    have hS2 : w2.cell? ⟨wq.heap.size + 1, 0, none⟩ = some (.pointer (some ⟨wq.heap.size, 0, none⟩)) ∧ w2.cell? ⟨w.heap.size, 0, none⟩ = some (.pointer (some ⟨b, 0, none⟩)) ∧ w2.cell? ⟨b, 0, none⟩ = some (.func (.func cf) #[] ccaps) ∧ w2.cell? ⟨w.heap.size + 1, 0, none⟩ = some (.int .i64 k1) ∧ w2.cell? ⟨w.heap.size + 1, 1, none⟩ = some (.int .i64 k2) ∧ w2.cell? ⟨w.heap.size + 1, 2, none⟩ = some (.int .i64 k3) :=
      ⟨cell_of_heap hg2.bre rfl, cell_of_heap hg2.bdb rfl, (cell_of_heap hg2.env.mem.blk (i := 0) rfl).trans (by rw [← Hc.out, ← hg2.next.comp]; rfl), cell_of_heap hkb2 rfl, cell_of_heap hkb2 rfl, cell_of_heap hkb2 rfl⟩
    have Hg2 := Lib.hid hg2
    have Hkb2 := Lib.hid hkb2
    have Hcl := Lib.hid (Inp.memoClone w2 _ ⟨#[]⟩ xs hints hsize)
    clear hu hp3 hg2 hF2 hFl2 hints hSW hkb2
    refine hK _ _ (fun _ => hS2) ?_
    clear hK K
    refine anyT_one (k := 8) (by kernel_rfl) rfl (fun K hK => ?_)
    go_simp
    refine Hcl.out.mono ?_
    rintro e w3 ⟨a3, c3, rfl, hi3, hn3, hc3⟩
    have hS3 := And.intro ((hc3.cell (lt_of_cell hS2.1) (by simp)).trans hS2.1) (And.intro ((hc3.cell (lt_of_cell hS2.2.1) (by simp)).trans hS2.2.1) (And.intro ((hc3.cell (lt_of_cell hS2.2.2.1) (by simp)).trans hS2.2.2.1) (And.intro ((hc3.cell (lt_of_cell hS2.2.2.2.1) (by simp)).trans hS2.2.2.2.1) (And.intro ((hc3.cell (lt_of_cell hS2.2.2.2.2.1) (by simp)).trans hS2.2.2.2.2.1) ((hc3.cell (lt_of_cell hS2.2.2.2.2.2) (by simp)).trans hS2.2.2.2.2.2)))))
    have hg3 := Hg2.out.new hc3
    have hkb3 := (hc3.block _ (lt_of_obj Hkb2.out) (by simp)).trans Hkb2.out
    have lt3 : ∀ g ∈ oblk a3, g < w3.heap.size := fun g hg => by
      rcases hi3 with ⟨e, _⟩ | ⟨g', off, cap, cc, fr, e, _, _, hh, _⟩
      · simp only [Value.slice.injEq] at e; rw [e.1] at hg; simp [oblk] at hg
      · simp only [Value.slice.injEq] at e; rw [e.1] at hg; simp [oblk] at hg; subst hg; exact lt_of_obj hh
    obtain ⟨w4, hw4⟩ : ∃ x, x = (w3.setCell ⟨wq.heap.size, 0, none⟩ (.slice a3 xs.length c3)).setCell ⟨wq.heap.size, 1, none⟩ (.string ⟨#[]⟩) := ⟨_, rfl⟩
    have hfin := hg3.fin hi3 hsize (fun ad had => ⟨fun hm => by have h1 := Hg2.out.env.mem.lt _ hm; have h2 := hn3 ad had; omega, fun e => by have h1 := lt_of_obj Hg2.out.res; have h2 := hn3 ad had; omega⟩) lt3 hw4 (r := ⟨wq.heap.size, a3, c3, xs, d.S.rev, d.S.rev, dur, da2, dcap2, deps, 0⟩) rfl
    have Hw4 := Lib.hid hw4
    clear hw4
    have hrc := cell_of_heap hg3.res (i := 0) rfl
    have hrc1 := cell_of_heap hg3.res (i := 1) rfl
    have hrf := frozen_of_heap hg3.res (i := 0)
    have hrf1 := frozen_of_heap hg3.res (i := 1)
    have hnewa : ∀ ad, a3 = some ad → w.heap.size ≤ ad.block := fun ad had => by
      have h1 := hn3 ad had
      have h2 := Hg2.out.next.chg.size
      omega
    have Hnewa := Lib.hid hnewa
    have Hkb3 := Lib.hid hkb3
    have Hboxes := Lib.hid (And.intro hg3.bdb hg3.bre)
    have Habox := Lib.hid (And.intro hg3.abox hg3.ares.2.2.2)
    have Hfin := Lib.hid hfin
    clear hi3 hn3 hc3 hS2 hg3 hkb3 lt3 hfin hnewa hsize
    refine hK _ _ (fun _ => hS3) ?_
    clear hK K
    refine anyT_one (k := 9) (by kernel_rfl) rfl (fun K hK => ?_)
    go_simp
    refine hK _ _ (fun _ => hS3) ?_
    clear hK K
    refine anyT_one (k := 10) (by kernel_rfl) rfl (fun K hK => ?_)
    go_simp
    refine hK _ _ (fun _ => hS3) ?_
    clear hK K
    refine anyT_one (k := 11) (by kernel_rfl) rfl (fun K hK => ?_)
    go_simp
    refine hK _ _ (fun h => by simp at h) ?_
    clear hK K hS3
    refine anyT_done (by kernel_rfl) ?_
    go_wp2_with fail
    rw [← Hw4.out]
    have hf4 := Hfin.out
    clear Hw4 Hfin
    obtain ⟨hen, hn4, hr4, hi4, hb1, hb2, hb3, hb4, hc4⟩ := hf4
    have Hn4 := Lib.hid hn4
    have Hr4 := Lib.hid (And.intro hr4 hi4)
    have Hrb := Lib.hid (show wq.heap.size ∉ d2.muts b ∧ wq.heap.size ∉ d2.imms ∧ w.heap.size ≤ wq.heap.size ∧ ∀ g ∈ oblk a3 ++ oblk da2, w.heap.size ≤ g from ⟨hb1, hb2, hb3, fun g hg => by
      rcases List.mem_append.1 hg with hg | hg
      · cases a3 with
        | none => simp [oblk] at hg
        | some ad => simp [oblk] at hg; subst hg; exact Hnewa.out ad rfl
      · exact hb4 g hg⟩)
    have Hbx4 := Lib.hid (And.intro ((hc4.block _ (lt_of_obj Hboxes.out.1) (fun e => Habox.out.2.1 e.symm)).trans Hboxes.out.1) (And.intro ((hc4.block _ (lt_of_obj Hboxes.out.2) (fun e => Habox.out.2.2.1 e.symm)).trans Hboxes.out.2) ((hc4.block _ (lt_of_obj Hkb3.out) (fun e => by have h1 := Hsz.out.2.2; omega)).trans Hkb3.out)))
    clear hen hn4 hr4 hi4 hb1 hb2 hb3 hb4 hc4 hrc hrc1 hrf hrf1
    have c0 : w4.cell? ⟨w.heap.size, 0, none⟩ = some (.pointer (some ⟨b, 0, none⟩)) := cell_of_heap Hbx4.out.1 rfl
    have c2 : w4.cell? ⟨b, 2, none⟩ = some (.map (some d2.br)) := cell_of_heap Hn4.out.mem.blk rfl
    have e0 : w4.cell? ⟨w.heap.size + 1, 0, none⟩ = some (.int .i64 k1) := cell_of_heap Hbx4.out.2.2 rfl
    have e1 : w4.cell? ⟨w.heap.size + 1, 1, none⟩ = some (.int .i64 k2) := cell_of_heap Hbx4.out.2.2 rfl
    have e2 : w4.cell? ⟨w.heap.size + 1, 2, none⟩ = some (.int .i64 k3) := cell_of_heap Hbx4.out.2.2 rfl
    refine wp_region_readsQ 6 (by kernel_rfl) (by kernel_rfl) ?_
    intro wd hwd
    simp only [List.take_succ_cons, List.take_zero, List.drop_succ_cons, List.drop_zero]
    have hcd : Chg [] w4 wd := by rw [hwd]; exact (Chg.refl _ _).drew
    have c0d := (hcd.cell (lt_of_cell c0) (by simp)).trans c0
    have c2d := (hcd.cell (lt_of_cell c2) (by simp)).trans c2
    have e0d := (hcd.cell (lt_of_cell e0) (by simp)).trans e0
    have e1d := (hcd.cell (lt_of_cell e1) (by simp)).trans e1
    have e2d := (hcd.cell (lt_of_cell e2) (by simp)).trans e2
    have hlk := ((Hn4.out.thenNew hcd).mem.res.lookup Inp.qkeyed Inp.qk_inj Try.underlying112 (Inp.qkOk Hkey.out) (ptr_zero wd) false)
    rw [aget_amap] at hlk
    unfold Inp.qk at hlk
    have Hn5 := Lib.hid (Hn4.out.thenNew hcd)
    have Hr5 := Lib.hid (And.intro (Hr4.out.1.kept (hcd.block _ (lt_of_obj Hr4.out.1.blk) (by simp)) fun g hg => hcd.block g (Hr4.out.2 g hg).2.2 (by simp)) (fun g hg => (⟨(Hr4.out.2 g hg).1, (Hr4.out.2 g hg).2.1, Nat.lt_of_lt_of_le (Hr4.out.2 g hg).2.2 hcd.size⟩ : g ∉ d2.muts b ∧ g ≠ wq.heap.size ∧ g < wd.heap.size)))
    have Hbx := Lib.hid (And.intro ((hcd.block _ (lt_of_obj Hbx4.out.1) (by simp)).trans Hbx4.out.1) (And.intro ((hcd.block _ (lt_of_obj Hbx4.out.2.1) (by simp)).trans Hbx4.out.2.1) ((hcd.block _ (lt_of_obj Hbx4.out.2.2) (by simp)).trans Hbx4.out.2.2)))
    clear hwd c0 c2 e0 e1 e2 hcd
    cases hold : aget d2.es (k1, k2, k3) with
    | none =>
      rw [hold] at hlk
      simp only [Option.map_none, Option.getD_none, Bool.false_eq_true, if_false] at hlk
      have HU := Lib.hid (show recompP U C (fun _ => false) d.pl (k1, k2, k3) = (.ok (), { d2.pl with es := ups d2.pl.es (k1, k2, k3) (Rs.pl ⟨wq.heap.size, a3, c3, xs, d.S.rev, d.S.rev, dur, da2, dcap2, deps, 0⟩), cnt := wrap64 (d2.cnt + 1) }) by
        rw [Hu.out]
        unfold newRes
        rw [Dm.aget_pl, hold]
        rfl)
      clear hold
      repeat go_big_quiet_step (fail)
      refine wpQuiet_nil ?_
      clear hlk c0d c2d e0d e1d e2d
      go_wp2_with fail
      refine wp_region_readsQ 22 (by kernel_rfl) (by kernel_rfl) ?_
      intro w5 hw5
      simp only [List.take_succ_cons, List.take_zero, List.drop_succ_cons, List.drop_zero]
      have hce : Chg [] wd w5 := by rw [hw5]; exact (Chg.refl _ _).drew
      have Hn5 := Lib.hid (Hn5.out.thenNew hce)
      have Hr5 := Lib.hid (And.intro (Hr5.out.1.kept (hce.block _ (lt_of_obj Hr5.out.1.blk) (by simp)) fun g hg => hce.block g (Hr5.out.2 g hg).2.2 (by simp)) (fun g hg => (⟨(Hr5.out.2 g hg).1, (Hr5.out.2 g hg).2.1, Nat.lt_of_lt_of_le (Hr5.out.2 g hg).2.2 hce.size⟩ : g ∉ d2.muts b ∧ g ≠ wq.heap.size ∧ g < w5.heap.size)))
      have Hbx := Lib.hid (And.intro ((hce.block _ (lt_of_obj Hbx.out.1) (by simp)).trans Hbx.out.1) (And.intro ((hce.block _ (lt_of_obj Hbx.out.2.1) (by simp)).trans Hbx.out.2.1) ((hce.block _ (lt_of_obj Hbx.out.2.2) (by simp)).trans Hbx.out.2.2)))
      clear hw5 hce
      repeat go_big_quiet_step (fail)
      refine wpQuiet_nil ?_
      go_wp2_with fail
      have c0 : w5.cell? ⟨w.heap.size, 0, none⟩ = some (.pointer (some ⟨b, 0, none⟩)) := cell_of_heap Hbx.out.1 rfl
      have c1 : w5.cell? ⟨wq.heap.size + 1, 0, none⟩ = some (.pointer (some ⟨wq.heap.size, 0, none⟩)) := cell_of_heap Hbx.out.2.1 rfl
      have c2 : w5.cell? ⟨b, 2, none⟩ = some (.map (some d2.br)) := cell_of_heap Hn5.out.mem.blk rfl
      have e0 : w5.cell? ⟨w.heap.size + 1, 0, none⟩ = some (.int .i64 k1) := cell_of_heap Hbx.out.2.2 rfl
      have e1 : w5.cell? ⟨w.heap.size + 1, 1, none⟩ = some (.int .i64 k2) := cell_of_heap Hbx.out.2.2 rfl
      have e2 : w5.cell? ⟨w.heap.size + 1, 2, none⟩ = some (.int .i64 k3) := cell_of_heap Hbx.out.2.2 rfl
      refine wp_region_readsQ 6 (by kernel_rfl) (by kernel_rfl) ?_
      intro wd hwd
      simp only [List.take_succ_cons, List.take_zero, List.drop_succ_cons, List.drop_zero]
      have hcd : Chg [] w5 wd := by rw [hwd]; exact (Chg.refl _ _).drew
      have c0d := (hcd.cell (lt_of_cell c0) (by simp)).trans c0
      have c1d := (hcd.cell (lt_of_cell c1) (by simp)).trans c1
      have c2d := (hcd.cell (lt_of_cell c2) (by simp)).trans c2
      have e0d := (hcd.cell (lt_of_cell e0) (by simp)).trans e0
      have e1d := (hcd.cell (lt_of_cell e1) (by simp)).trans e1
      have e2d := (hcd.cell (lt_of_cell e2) (by simp)).trans e2
      have hnd := Hn5.out.thenNew hcd
      obtain ⟨o, hupd, hmap⟩ := hnd.mem.res.update Inp.qkeyed Inp.qk_inj Try.underlying112 (Inp.qkOk Hkey.out) (Rs.val ⟨wq.heap.size, a3, c3, xs, d.S.rev, d.S.rev, dur, da2, dcap2, deps, 0⟩)
      have hne : b ≠ d2.br := by
        have := hnd.mem.nodup
        unfold Dm.muts at this
        simp only [List.nodup_cons, List.mem_cons, not_or] at this
        exact this.1.2.2.1
      have hbl : (setBlock wd d2.br o).heap[b]? = wd.heap[b]? := ((Chg.refl [d2.br] wd).setBlock (Or.inl (by simp)) o).block b (lt_of_obj hnd.mem.blk) (by simpa using hne)
      have hbb := hbl.trans hnd.mem.blk
      have b5 : (setBlock wd d2.br o).cell? ⟨b, 5, none⟩ = some (.int .i64 d2.cnt) := cell_of_heap hbb rfl
      have f5 := frozen_of_heap hbb (i := 5)
      have hmbr : d2.br ∈ d2.muts b := by simp [Dm.muts]
      have c0f : (setBlock wd d2.br o).cell? ⟨w.heap.size, 0, none⟩ = some (.pointer (some ⟨b, 0, none⟩)) := (cell_setBlock (fun e => Habox.out.1.1 (by rw [show w.heap.size = d2.br from e]; exact hmbr))).trans c0d
      have c1f : (setBlock wd d2.br o).cell? ⟨wq.heap.size + 1, 0, none⟩ = some (.pointer (some ⟨wq.heap.size, 0, none⟩)) := (cell_setBlock (fun e => Habox.out.1.2 (by rw [show wq.heap.size + 1 = d2.br from e]; exact hmbr))).trans c1d
      have Hend := Lib.hid (rec_end (n := wrap64 (d2.cnt + 1)) hnd (Hr5.out.1.kept (hcd.block _ (lt_of_obj Hr5.out.1.blk) (by simp)) fun g hg => hcd.block g (Hr5.out.2 g hg).2.2 (by simp)) (fun g hg => ⟨(Hr5.out.2 g hg).1, (Hr5.out.2 g hg).2.1, Nat.lt_of_lt_of_le (Hr5.out.2 g hg).2.2 hcd.size⟩) Hrb.out.1 Hrb.out.2.1 Hrb.out.2.2.1 Hrb.out.2.2.2 hmap HU.out)
      unfold Rs.val at hupd Hend
      unfold Inp.qk at hupd
      clear hwd c0 c1 c2 e0 e1 e2 hcd hnd hmap hne hbl hbb hmbr
      repeat go_big_quiet_step (fail)
      refine wpQuiet_nil ?_
      go_wp2_with fail
      go_ret
      exact Hend.out
    | some old =>
      rw [hold] at hlk
      simp only [Option.map_some, Option.getD_some, Bool.false_eq_true, if_false] at hlk
      unfold Rs.val at hlk
      have Hold := Lib.hid hold
      clear hold
      repeat go_big_quiet_step (fail)
      refine wpQuiet_nil ?_
      clear hlk c0d c2d e0d e1d e2d
      go_wp2_with fail
      refine wp_region_readsQ 22 (by kernel_rfl) (by kernel_rfl) ?_
      intro w5 hw5
      simp only [List.take_succ_cons, List.take_zero, List.drop_succ_cons, List.drop_zero]
      have hce : Chg [] wd w5 := by rw [hw5]; exact (Chg.refl _ _).drew
      have Hn5 := Lib.hid (Hn5.out.thenNew hce)
      have Hr5 := Lib.hid (And.intro (Hr5.out.1.kept (hce.block _ (lt_of_obj Hr5.out.1.blk) (by simp)) fun g hg => hce.block g (Hr5.out.2 g hg).2.2 (by simp)) (fun g hg => (⟨(Hr5.out.2 g hg).1, (Hr5.out.2 g hg).2.1, Nat.lt_of_lt_of_le (Hr5.out.2 g hg).2.2 hce.size⟩ : g ∉ d2.muts b ∧ g ≠ wq.heap.size ∧ g < w5.heap.size)))
      have Hbx := Lib.hid (And.intro ((hce.block _ (lt_of_obj Hbx.out.1) (by simp)).trans Hbx.out.1) (And.intro ((hce.block _ (lt_of_obj Hbx.out.2.1) (by simp)).trans Hbx.out.2.1) ((hce.block _ (lt_of_obj Hbx.out.2.2) (by simp)).trans Hbx.out.2.2)))
      clear hw5 hce
      have o0 : w5.cell? ⟨old.blk, 0, none⟩ = some (.slice old.a old.xs.length old.cap) := cell_of_heap (Hn5.out.mem.rs Hold.out).blk rfl
      have o1 : w5.cell? ⟨old.blk, 1, none⟩ = some (.string ⟨#[]⟩) := cell_of_heap (Hn5.out.mem.rs Hold.out).blk rfl
      have o4 : w5.cell? ⟨old.blk, 4, none⟩ = some (.int .i64 old.dur) := cell_of_heap (Hn5.out.mem.rs Hold.out).blk rfl
      have r0 : w5.cell? ⟨wq.heap.size, 0, none⟩ = some (.slice a3 xs.length c3) := cell_of_heap Hr5.out.1.blk rfl
      have r1 : w5.cell? ⟨wq.heap.size, 1, none⟩ = some (.string ⟨#[]⟩) := cell_of_heap Hr5.out.1.blk rfl
      have r4 : w5.cell? ⟨wq.heap.size, 4, none⟩ = some (.int .i64 dur) := cell_of_heap Hr5.out.1.blk rfl
      have c1 : w5.cell? ⟨wq.heap.size + 1, 0, none⟩ = some (.pointer (some ⟨wq.heap.size, 0, none⟩)) := cell_of_heap Hbx.out.2.1 rfl
      by_cases hdur : old.dur ≤ dur
      · by_cases hxs : old.xs = xs
        · have Heq := Lib.hid (Inp.inputsEqual w5 _ _ ⟨#[]⟩ ⟨#[]⟩ old.xs xs (Hn5.out.mem.rs Hold.out).nums Hr5.out.1.nums)
          have HU := Lib.hid (show recompP U C (fun _ => false) d.pl (k1, k2, k3) = (.ok (), { d2.pl with es := ups d2.pl.es (k1, k2, k3) (Rs.pl ⟨wq.heap.size, a3, c3, xs, d.S.rev, old.chg, dur, da2, dcap2, deps, 0⟩), cnt := wrap64 (d2.cnt + 1) }) by
            rw [Hu.out]
            unfold newRes
            rw [Dm.aget_pl, Hold.out]
            simp only [Option.map_some]
            rw [if_pos (show old.pl.dur ≤ dur ∧ old.pl.xs = xs from ⟨hdur, hxs⟩)]
            rfl)
          have Hdec := Lib.hid (show decide ((⟨#[]⟩ : ByteArray) = ⟨#[]⟩ ∧ old.xs = xs) = true from decide_eq_true ⟨rfl, hxs⟩)
          clear hxs
          repeat go_big_quiet_step (fail)
          refine wpQuiet_nil ?_
          go_wp2_with fail
          refine Heq.out.mono ?_
          rintro e w6 ⟨rfl, hc6⟩
          rw [Hdec.out]
          have Hn5 := Lib.hid (Hn5.out.thenNew hc6)
          have Hr5 := Lib.hid (And.intro (Hr5.out.1.kept (hc6.block _ (lt_of_obj Hr5.out.1.blk) (by simp)) fun g hg => hc6.block g (Hr5.out.2 g hg).2.2 (by simp)) (fun g hg => (⟨(Hr5.out.2 g hg).1, (Hr5.out.2 g hg).2.1, Nat.lt_of_lt_of_le (Hr5.out.2 g hg).2.2 hc6.size⟩ : g ∉ d2.muts b ∧ g ≠ wq.heap.size ∧ g < w6.heap.size)))
          have Hbx := Lib.hid (And.intro ((hc6.block _ (lt_of_obj Hbx.out.1) (by simp)).trans Hbx.out.1) (And.intro ((hc6.block _ (lt_of_obj Hbx.out.2.1) (by simp)).trans Hbx.out.2.1) ((hc6.block _ (lt_of_obj Hbx.out.2.2) (by simp)).trans Hbx.out.2.2)))
          clear hc6 o0 o1 o4 r0 r1 r4 c1
          have o3 : w6.cell? ⟨old.blk, 3, none⟩ = some (.int .i64 old.chg) := cell_of_heap (Hn5.out.mem.rs Hold.out).blk rfl
          have r3 : w6.cell? ⟨wq.heap.size, 3, none⟩ = some (.int .i64 d.S.rev) := cell_of_heap Hr5.out.1.blk rfl
          have f3 := frozen_of_heap Hr5.out.1.blk (i := 3)
          have c1 : w6.cell? ⟨wq.heap.size + 1, 0, none⟩ = some (.pointer (some ⟨wq.heap.size, 0, none⟩)) := cell_of_heap Hbx.out.2.1 rfl
          go_wp2_with fail
          refine wp_region_readsQ 5 (by kernel_rfl) (by kernel_rfl) ?_
          intro w7 hw7
          simp only [List.take_succ_cons, List.take_zero, List.drop_succ_cons, List.drop_zero]
          have hce : Chg [] w6 w7 := by rw [hw7]; exact (Chg.refl _ _).drew
          have o3d := (hce.cell (lt_of_cell o3) (by simp)).trans o3
          have r3d := (hce.cell (lt_of_cell r3) (by simp)).trans r3
          have f3d := (hce.frozen (p := ⟨wq.heap.size, 3, none⟩) (lt_of_cell r3) (by simp)).trans f3
          have c1d := (hce.cell (lt_of_cell c1) (by simp)).trans c1
          have Hn5 := Lib.hid (Hn5.out.thenNew hce)
          have Hr5 := Lib.hid (And.intro (Hr5.out.1.kept (hce.block _ (lt_of_obj Hr5.out.1.blk) (by simp)) fun g hg => hce.block g (Hr5.out.2 g hg).2.2 (by simp)) (fun g hg => (⟨(Hr5.out.2 g hg).1, (Hr5.out.2 g hg).2.1, Nat.lt_of_lt_of_le (Hr5.out.2 g hg).2.2 hce.size⟩ : g ∉ d2.muts b ∧ g ≠ wq.heap.size ∧ g < w7.heap.size)))
          have Hbx := Lib.hid (And.intro ((hce.block _ (lt_of_obj Hbx.out.1) (by simp)).trans Hbx.out.1) (And.intro ((hce.block _ (lt_of_obj Hbx.out.2.1) (by simp)).trans Hbx.out.2.1) ((hce.block _ (lt_of_obj Hbx.out.2.2) (by simp)).trans Hbx.out.2.2)))
          clear hw7 hce o3 r3 f3 c1
          repeat go_big_quiet_step (fail)
          refine wpQuiet_nil ?_
          go_wp2_with fail
          obtain ⟨w5, hw5⟩ : ∃ x, x = w7.setCell ⟨wq.heap.size, 3, none⟩ (.int .i64 old.chg) := ⟨_, rfl⟩
          rw [← hw5]
          have hcs : ChgP (fun g => g = wq.heap.size) w7 w5 := by rw [hw5]; exact (ChgP.refl (fun g => g = wq.heap.size) w7).setCell (p := ⟨wq.heap.size, 3, none⟩) (Or.inl rfl) _
          have hrs := Hr5.out.1.setChg old.chg (fun g hg => (Hr5.out.2 g hg).2.1)
          rw [← hw5] at hrs
          have Hn5 := Lib.hid (Hn5.out.side hcs Hrb.out.1 Hrb.out.2.1 Hrb.out.2.2.1)
          have Hr5 := Lib.hid (And.intro hrs (fun g hg => (⟨(Hr5.out.2 g hg).1, (Hr5.out.2 g hg).2.1, Nat.lt_of_lt_of_le (Hr5.out.2 g hg).2.2 hcs.size⟩ : g ∉ d2.muts b ∧ g ≠ wq.heap.size ∧ g < w5.heap.size)))
          have Hbx := Lib.hid (And.intro ((hcs.block _ (lt_of_obj Hbx.out.1) (fun e => Habox.out.2.1 e.symm)).trans Hbx.out.1) (And.intro ((hcs.block _ (lt_of_obj Hbx.out.2.1) (fun e => Habox.out.2.2.1 e.symm)).trans Hbx.out.2.1) ((hcs.block _ (lt_of_obj Hbx.out.2.2) (fun e => by have h1 := Hsz.out.2.2; omega)).trans Hbx.out.2.2)))
          clear hw5 hcs hrs o3d r3d f3d c1d
          have c0 : w5.cell? ⟨w.heap.size, 0, none⟩ = some (.pointer (some ⟨b, 0, none⟩)) := cell_of_heap Hbx.out.1 rfl
          have c1 : w5.cell? ⟨wq.heap.size + 1, 0, none⟩ = some (.pointer (some ⟨wq.heap.size, 0, none⟩)) := cell_of_heap Hbx.out.2.1 rfl
          have c2 : w5.cell? ⟨b, 2, none⟩ = some (.map (some d2.br)) := cell_of_heap Hn5.out.mem.blk rfl
          have e0 : w5.cell? ⟨w.heap.size + 1, 0, none⟩ = some (.int .i64 k1) := cell_of_heap Hbx.out.2.2 rfl
          have e1 : w5.cell? ⟨w.heap.size + 1, 1, none⟩ = some (.int .i64 k2) := cell_of_heap Hbx.out.2.2 rfl
          have e2 : w5.cell? ⟨w.heap.size + 1, 2, none⟩ = some (.int .i64 k3) := cell_of_heap Hbx.out.2.2 rfl
          refine wp_region_readsQ 6 (by kernel_rfl) (by kernel_rfl) ?_
          intro wd hwd
          simp only [List.take_succ_cons, List.take_zero, List.drop_succ_cons, List.drop_zero]
          have hcd : Chg [] w5 wd := by rw [hwd]; exact (Chg.refl _ _).drew
          have c0d := (hcd.cell (lt_of_cell c0) (by simp)).trans c0
          have c1d := (hcd.cell (lt_of_cell c1) (by simp)).trans c1
          have c2d := (hcd.cell (lt_of_cell c2) (by simp)).trans c2
          have e0d := (hcd.cell (lt_of_cell e0) (by simp)).trans e0
          have e1d := (hcd.cell (lt_of_cell e1) (by simp)).trans e1
          have e2d := (hcd.cell (lt_of_cell e2) (by simp)).trans e2
          have hnd := Hn5.out.thenNew hcd
          obtain ⟨o, hupd, hmap⟩ := hnd.mem.res.update Inp.qkeyed Inp.qk_inj Try.underlying112 (Inp.qkOk Hkey.out) (Rs.val ⟨wq.heap.size, a3, c3, xs, d.S.rev, old.chg, dur, da2, dcap2, deps, 0⟩)
          have hne : b ≠ d2.br := by
            have := hnd.mem.nodup
            unfold Dm.muts at this
            simp only [List.nodup_cons, List.mem_cons, not_or] at this
            exact this.1.2.2.1
          have hbl : (setBlock wd d2.br o).heap[b]? = wd.heap[b]? := ((Chg.refl [d2.br] wd).setBlock (Or.inl (by simp)) o).block b (lt_of_obj hnd.mem.blk) (by simpa using hne)
          have hbb := hbl.trans hnd.mem.blk
          have b5 : (setBlock wd d2.br o).cell? ⟨b, 5, none⟩ = some (.int .i64 d2.cnt) := cell_of_heap hbb rfl
          have f5 := frozen_of_heap hbb (i := 5)
          have hmbr : d2.br ∈ d2.muts b := by simp [Dm.muts]
          have c0f : (setBlock wd d2.br o).cell? ⟨w.heap.size, 0, none⟩ = some (.pointer (some ⟨b, 0, none⟩)) := (cell_setBlock (fun e => Habox.out.1.1 (by rw [show w.heap.size = d2.br from e]; exact hmbr))).trans c0d
          have c1f : (setBlock wd d2.br o).cell? ⟨wq.heap.size + 1, 0, none⟩ = some (.pointer (some ⟨wq.heap.size, 0, none⟩)) := (cell_setBlock (fun e => Habox.out.1.2 (by rw [show wq.heap.size + 1 = d2.br from e]; exact hmbr))).trans c1d
          have Hend := Lib.hid (rec_end (n := wrap64 (d2.cnt + 1)) hnd (Hr5.out.1.kept (hcd.block _ (lt_of_obj Hr5.out.1.blk) (by simp)) fun g hg => hcd.block g (Hr5.out.2 g hg).2.2 (by simp)) (fun g hg => ⟨(Hr5.out.2 g hg).1, (Hr5.out.2 g hg).2.1, Nat.lt_of_lt_of_le (Hr5.out.2 g hg).2.2 hcd.size⟩) Hrb.out.1 Hrb.out.2.1 Hrb.out.2.2.1 Hrb.out.2.2.2 hmap HU.out)
          unfold Rs.val at hupd Hend
          unfold Inp.qk at hupd
          clear hwd c0 c1 c2 e0 e1 e2 hcd hnd hmap hne hbl hbb hmbr
          repeat go_big_quiet_step (fail)
          refine wpQuiet_nil ?_
          go_wp2_with fail
          go_ret
          exact Hend.out
        · have Heq := Lib.hid (Inp.inputsEqual w5 _ _ ⟨#[]⟩ ⟨#[]⟩ old.xs xs (Hn5.out.mem.rs Hold.out).nums Hr5.out.1.nums)
          have HU := Lib.hid (show recompP U C (fun _ => false) d.pl (k1, k2, k3) = (.ok (), { d2.pl with es := ups d2.pl.es (k1, k2, k3) (Rs.pl ⟨wq.heap.size, a3, c3, xs, d.S.rev, d.S.rev, dur, da2, dcap2, deps, 0⟩), cnt := wrap64 (d2.cnt + 1) }) by
            rw [Hu.out]
            unfold newRes
            rw [Dm.aget_pl, Hold.out]
            simp only [Option.map_some]
            rw [if_neg (show ¬ (old.pl.dur ≤ dur ∧ old.pl.xs = xs) from fun h => hxs h.2)]
            rfl)
          have Hdec := Lib.hid (show decide ((⟨#[]⟩ : ByteArray) = ⟨#[]⟩ ∧ old.xs = xs) = false from decide_eq_false (fun h => hxs h.2))
          clear hxs
          repeat go_big_quiet_step (fail)
          refine wpQuiet_nil ?_
          go_wp2_with fail
          refine Heq.out.mono ?_
          rintro e w6 ⟨rfl, hc6⟩
          rw [Hdec.out]
          have Hn5 := Lib.hid (Hn5.out.thenNew hc6)
          have Hr5 := Lib.hid (And.intro (Hr5.out.1.kept (hc6.block _ (lt_of_obj Hr5.out.1.blk) (by simp)) fun g hg => hc6.block g (Hr5.out.2 g hg).2.2 (by simp)) (fun g hg => (⟨(Hr5.out.2 g hg).1, (Hr5.out.2 g hg).2.1, Nat.lt_of_lt_of_le (Hr5.out.2 g hg).2.2 hc6.size⟩ : g ∉ d2.muts b ∧ g ≠ wq.heap.size ∧ g < w6.heap.size)))
          have Hbx := Lib.hid (And.intro ((hc6.block _ (lt_of_obj Hbx.out.1) (by simp)).trans Hbx.out.1) (And.intro ((hc6.block _ (lt_of_obj Hbx.out.2.1) (by simp)).trans Hbx.out.2.1) ((hc6.block _ (lt_of_obj Hbx.out.2.2) (by simp)).trans Hbx.out.2.2)))
          clear hc6 o0 o1 o4 r0 r1 r4 c1
          go_wp2_with fail
          have c0 : w6.cell? ⟨w.heap.size, 0, none⟩ = some (.pointer (some ⟨b, 0, none⟩)) := cell_of_heap Hbx.out.1 rfl
          have c1 : w6.cell? ⟨wq.heap.size + 1, 0, none⟩ = some (.pointer (some ⟨wq.heap.size, 0, none⟩)) := cell_of_heap Hbx.out.2.1 rfl
          have c2 : w6.cell? ⟨b, 2, none⟩ = some (.map (some d2.br)) := cell_of_heap Hn5.out.mem.blk rfl
          have e0 : w6.cell? ⟨w.heap.size + 1, 0, none⟩ = some (.int .i64 k1) := cell_of_heap Hbx.out.2.2 rfl
          have e1 : w6.cell? ⟨w.heap.size + 1, 1, none⟩ = some (.int .i64 k2) := cell_of_heap Hbx.out.2.2 rfl
          have e2 : w6.cell? ⟨w.heap.size + 1, 2, none⟩ = some (.int .i64 k3) := cell_of_heap Hbx.out.2.2 rfl
          refine wp_region_readsQ 6 (by kernel_rfl) (by kernel_rfl) ?_
          intro wd hwd
          simp only [List.take_succ_cons, List.take_zero, List.drop_succ_cons, List.drop_zero]
          have hcd : Chg [] w6 wd := by rw [hwd]; exact (Chg.refl _ _).drew
          have c0d := (hcd.cell (lt_of_cell c0) (by simp)).trans c0
          have c1d := (hcd.cell (lt_of_cell c1) (by simp)).trans c1
          have c2d := (hcd.cell (lt_of_cell c2) (by simp)).trans c2
          have e0d := (hcd.cell (lt_of_cell e0) (by simp)).trans e0
          have e1d := (hcd.cell (lt_of_cell e1) (by simp)).trans e1
          have e2d := (hcd.cell (lt_of_cell e2) (by simp)).trans e2
          have hnd := Hn5.out.thenNew hcd
          obtain ⟨o, hupd, hmap⟩ := hnd.mem.res.update Inp.qkeyed Inp.qk_inj Try.underlying112 (Inp.qkOk Hkey.out) (Rs.val ⟨wq.heap.size, a3, c3, xs, d.S.rev, d.S.rev, dur, da2, dcap2, deps, 0⟩)
          have hne : b ≠ d2.br := by
            have := hnd.mem.nodup
            unfold Dm.muts at this
            simp only [List.nodup_cons, List.mem_cons, not_or] at this
            exact this.1.2.2.1
          have hbl : (setBlock wd d2.br o).heap[b]? = wd.heap[b]? := ((Chg.refl [d2.br] wd).setBlock (Or.inl (by simp)) o).block b (lt_of_obj hnd.mem.blk) (by simpa using hne)
          have hbb := hbl.trans hnd.mem.blk
          have b5 : (setBlock wd d2.br o).cell? ⟨b, 5, none⟩ = some (.int .i64 d2.cnt) := cell_of_heap hbb rfl
          have f5 := frozen_of_heap hbb (i := 5)
          have hmbr : d2.br ∈ d2.muts b := by simp [Dm.muts]
          have c0f : (setBlock wd d2.br o).cell? ⟨w.heap.size, 0, none⟩ = some (.pointer (some ⟨b, 0, none⟩)) := (cell_setBlock (fun e => Habox.out.1.1 (by rw [show w.heap.size = d2.br from e]; exact hmbr))).trans c0d
          have c1f : (setBlock wd d2.br o).cell? ⟨wq.heap.size + 1, 0, none⟩ = some (.pointer (some ⟨wq.heap.size, 0, none⟩)) := (cell_setBlock (fun e => Habox.out.1.2 (by rw [show wq.heap.size + 1 = d2.br from e]; exact hmbr))).trans c1d
          have Hend := Lib.hid (rec_end (n := wrap64 (d2.cnt + 1)) hnd (Hr5.out.1.kept (hcd.block _ (lt_of_obj Hr5.out.1.blk) (by simp)) fun g hg => hcd.block g (Hr5.out.2 g hg).2.2 (by simp)) (fun g hg => ⟨(Hr5.out.2 g hg).1, (Hr5.out.2 g hg).2.1, Nat.lt_of_lt_of_le (Hr5.out.2 g hg).2.2 hcd.size⟩) Hrb.out.1 Hrb.out.2.1 Hrb.out.2.2.1 Hrb.out.2.2.2 hmap HU.out)
          unfold Rs.val at hupd Hend
          unfold Inp.qk at hupd
          clear hwd c0 c1 c2 e0 e1 e2 hcd hnd hmap hne hbl hbb hmbr
          repeat go_big_quiet_step (fail)
          refine wpQuiet_nil ?_
          go_wp2_with fail
          go_ret
          exact Hend.out
      · have bd : decide (old.dur ≤ dur) = false := by simpa using hdur
        have HU := Lib.hid (show recompP U C (fun _ => false) d.pl (k1, k2, k3) = (.ok (), { d2.pl with es := ups d2.pl.es (k1, k2, k3) (Rs.pl ⟨wq.heap.size, a3, c3, xs, d.S.rev, d.S.rev, dur, da2, dcap2, deps, 0⟩), cnt := wrap64 (d2.cnt + 1) }) by
          rw [Hu.out]
          unfold newRes
          rw [Dm.aget_pl, Hold.out]
          simp only [Option.map_some]
          rw [if_neg (show ¬ (old.pl.dur ≤ dur ∧ old.pl.xs = xs) from fun h => hdur h.1)]
          rfl)
        clear hdur
        repeat go_big_quiet_step (fail)
        refine wpQuiet_nil ?_
        go_wp2_with fail
        clear o0 o1 o4 r0 r1 r4 c1 bd
        have c0 : w5.cell? ⟨w.heap.size, 0, none⟩ = some (.pointer (some ⟨b, 0, none⟩)) := cell_of_heap Hbx.out.1 rfl
        have c1 : w5.cell? ⟨wq.heap.size + 1, 0, none⟩ = some (.pointer (some ⟨wq.heap.size, 0, none⟩)) := cell_of_heap Hbx.out.2.1 rfl
        have c2 : w5.cell? ⟨b, 2, none⟩ = some (.map (some d2.br)) := cell_of_heap Hn5.out.mem.blk rfl
        have e0 : w5.cell? ⟨w.heap.size + 1, 0, none⟩ = some (.int .i64 k1) := cell_of_heap Hbx.out.2.2 rfl
        have e1 : w5.cell? ⟨w.heap.size + 1, 1, none⟩ = some (.int .i64 k2) := cell_of_heap Hbx.out.2.2 rfl
        have e2 : w5.cell? ⟨w.heap.size + 1, 2, none⟩ = some (.int .i64 k3) := cell_of_heap Hbx.out.2.2 rfl
        refine wp_region_readsQ 6 (by kernel_rfl) (by kernel_rfl) ?_
        intro wd hwd
        simp only [List.take_succ_cons, List.take_zero, List.drop_succ_cons, List.drop_zero]
        have hcd : Chg [] w5 wd := by rw [hwd]; exact (Chg.refl _ _).drew
        have c0d := (hcd.cell (lt_of_cell c0) (by simp)).trans c0
        have c1d := (hcd.cell (lt_of_cell c1) (by simp)).trans c1
        have c2d := (hcd.cell (lt_of_cell c2) (by simp)).trans c2
        have e0d := (hcd.cell (lt_of_cell e0) (by simp)).trans e0
        have e1d := (hcd.cell (lt_of_cell e1) (by simp)).trans e1
        have e2d := (hcd.cell (lt_of_cell e2) (by simp)).trans e2
        have hnd := Hn5.out.thenNew hcd
        obtain ⟨o, hupd, hmap⟩ := hnd.mem.res.update Inp.qkeyed Inp.qk_inj Try.underlying112 (Inp.qkOk Hkey.out) (Rs.val ⟨wq.heap.size, a3, c3, xs, d.S.rev, d.S.rev, dur, da2, dcap2, deps, 0⟩)
        have hne : b ≠ d2.br := by
          have := hnd.mem.nodup
          unfold Dm.muts at this
          simp only [List.nodup_cons, List.mem_cons, not_or] at this
          exact this.1.2.2.1
        have hbl : (setBlock wd d2.br o).heap[b]? = wd.heap[b]? := ((Chg.refl [d2.br] wd).setBlock (Or.inl (by simp)) o).block b (lt_of_obj hnd.mem.blk) (by simpa using hne)
        have hbb := hbl.trans hnd.mem.blk
        have b5 : (setBlock wd d2.br o).cell? ⟨b, 5, none⟩ = some (.int .i64 d2.cnt) := cell_of_heap hbb rfl
        have f5 := frozen_of_heap hbb (i := 5)
        have hmbr : d2.br ∈ d2.muts b := by simp [Dm.muts]
        have c0f : (setBlock wd d2.br o).cell? ⟨w.heap.size, 0, none⟩ = some (.pointer (some ⟨b, 0, none⟩)) := (cell_setBlock (fun e => Habox.out.1.1 (by rw [show w.heap.size = d2.br from e]; exact hmbr))).trans c0d
        have c1f : (setBlock wd d2.br o).cell? ⟨wq.heap.size + 1, 0, none⟩ = some (.pointer (some ⟨wq.heap.size, 0, none⟩)) := (cell_setBlock (fun e => Habox.out.1.2 (by rw [show wq.heap.size + 1 = d2.br from e]; exact hmbr))).trans c1d
        have Hend := Lib.hid (rec_end (n := wrap64 (d2.cnt + 1)) hnd (Hr5.out.1.kept (hcd.block _ (lt_of_obj Hr5.out.1.blk) (by simp)) fun g hg => hcd.block g (Hr5.out.2 g hg).2.2 (by simp)) (fun g hg => ⟨(Hr5.out.2 g hg).1, (Hr5.out.2 g hg).2.1, Nat.lt_of_lt_of_le (Hr5.out.2 g hg).2.2 hcd.size⟩) Hrb.out.1 Hrb.out.2.1 Hrb.out.2.2.1 Hrb.out.2.2.2 hmap HU.out)
        unfold Rs.val at hupd Hend
        unfold Inp.qk at hupd
        clear hwd c0 c1 c2 e0 e1 e2 hcd hnd hmap hne hbl hbb hmbr
        repeat go_big_quiet_step (fail)
        refine wpQuiet_nil ?_
        go_wp2_with fail
        go_ret
        exact Hend.out
set_option maxRecDepth 100000 in
set_option maxHeartbeats 8000000 in
theorem recompute_fn (fam : UFam w0 RO b (.func (.func cf) #[] ccaps) (.func (.func sf) sfirst scaps) K U chI) (sfam : SFam w0 RO b sf sfirst scaps sb) (cfam : CFam w0 RO cf ccaps C chI Kc Kk) (key : QK) (v : Int) (hkc : Kc key) (hkey : Inp.QKok key) (fin : ∀ l : List QK, l.Nodup → (∀ k ∈ l, Kk key k) → l.length ≤ 1000)
    (w : World) (d : Dm) (h : Env w0 RO b w d) (hc : d.comp = .func (.func cf) #[] ccaps) (hs : d.stop = .func (.func sf) sfirst scaps) (ha : aget d.act key = some v) (hks : ∀ k, Kk key k → Inp.QKok k ∧ (k.1 ≠ 0 → K d.pl k)) :
    Calls Try.prog 93 #[.pointer (some ⟨b, 0, none⟩), i3v key] w (RPost (recompP U C sb) chI b key w d) := by
  obtain ⟨k1, k2, k3⟩ := key
  have q0 : w.cell? ⟨b, 0, none⟩ = some (.func (.func cf) #[] ccaps) := (cell_of_heap h.mem.blk (i := 0) rfl).trans (by rw [← hc]; rfl)
  have q1 : w.cell? ⟨b, 1, none⟩ = some (.pointer (some ⟨d.bs, 0, none⟩)) := cell_of_heap h.mem.blk rfl
  have q4 : w.cell? ⟨b, 4, none⟩ = some (.func (.func sf) sfirst scaps) := (cell_of_heap h.mem.blk (i := 4) rfl).trans (by rw [← hs]; rfl)
  have lb : b < w.heap.size := lt_of_cell q0
  have nb := World.new_ne w _ q0
  have lb1 : b < w.heap.size + 1 := by omega
  have lb2 : b < w.heap.size + 1 + 1 := by omega
  have hcA : Chg [] w ((w.alloc (.cells #[.pointer (some ⟨b, 0, none⟩)] 60)).alloc (.cells #[.int .i64 k1, .int .i64 k2, .int .i64 k3] 43)) := ((Chg.refl [] w).alloc _).alloc _
  have HcA := Lib.hid hcA
  have Hst := Lib.hid (h.mem.store.same hcA)
  have Hdb := Lib.hid (show ((w.alloc (.cells #[.pointer (some ⟨b, 0, none⟩)] 60)).alloc (.cells #[.int .i64 k1, .int .i64 k2, .int .i64 k3] 43)).heap[w.heap.size]? = some (.cells #[.pointer (some ⟨b, 0, none⟩)] 60 (0, 0)) from (heap_past _ _ _ (by simp)).trans (heap_at _ _ _ rfl))
  have Hkb := Lib.hid (show ((w.alloc (.cells #[.pointer (some ⟨b, 0, none⟩)] 60)).alloc (.cells #[.int .i64 k1, .int .i64 k2, .int .i64 k3] 43)).heap[w.heap.size + 1]? = some (.cells #[.int .i64 k1, .int .i64 k2, .int .i64 k3] 43 (0, 0)) from heap_at _ _ _ (by simp))
  have heq := fun u : World => run_neq_func_nil (P := Try.prog) u _ _ _ _ (.func sf) sfirst scaps Try.underlying26
  have senter := sfam.enter
  have Hscall := Lib.hid (sfam.call _ d (h.new hcA))
  have H := Lib.hid h
  have Hc := Lib.hid hc
  have Hs := Lib.hid hs
  have Ha := Lib.hid ha
  have Hks := Lib.hid hks
  have Hkey := Lib.hid hkey
  clear h hc hs ha hks hcA hkey
  unfold i3v
  go_enter Try.func93, Try.ntmps93
  go_wp2_with fail
  refine Hscall.out.mono ?_
  rintro e w1 ⟨rfl, hc1⟩
  have hst1 := Hst.out.same hc1
  have hcA1 := HcA.out.trans hc1
  have hdb1 := (hc1.block w.heap.size (by first | (simp; done) | (simp; omega)) (by simp)).trans Hdb.out
  have hkb1 := (hc1.block (w.heap.size + 1) (by first | (simp; done) | (simp; omega)) (by simp)).trans Hkb.out
  have c0 := cell_of_heap hdb1 (i := 0) rfl
  have c1 := (hcA1.cell (p := ⟨b, 1, none⟩) lb (by simp)).trans q1
  have HcA := Lib.hid hcA1
  have Hst := Lib.hid hst1
  have Hdb := Lib.hid hdb1
  have Hkb := Lib.hid hkb1
  clear hc1 hst1 hcA1 hdb1 hkb1 heq senter Hscall
  cases hsb : sb d.pl
  case true =>
    have Hf := Lib.hid (recompP_stop (U := U) (C := C) (k := (k1, k2, k3)) hsb)
    clear hsb
    go_wp2
    exact ⟨rfl, RPost.mkErr (U := recompP U C sb) (x := 12) Hf.out (Next.new H.out.mem HcA.out) rfl⟩
  have Hsb := Lib.hid hsb
  clear hsb
  go_wp2_with fail
  refine (revision_q _ _ _ _ Hst.out).mono ?_
  rintro e wq ⟨rfl, hwq⟩
  have hcQ : Chg [] w wq := by rw [hwq]; exact HcA.out
  have hdb : wq.heap[w.heap.size]? = some (.cells #[.pointer (some ⟨b, 0, none⟩)] 60 (0, 0)) := by rw [hwq]; exact Hdb.out
  have hkb : wq.heap[w.heap.size + 1]? = some (.cells #[.int .i64 k1, .int .i64 k2, .int .i64 k3] 43 (0, 0)) := by rw [hwq]; exact Hkb.out
  clear hwq Hdb Hkb c0 c1
  go_wp2_with fail
  obtain ⟨wr, hwr⟩ : ∃ x, x = ((wq.alloc (.cells #[.slice none 0 0, .string ⟨#[]⟩, .int .i64 d.S.rev, .int .i64 d.S.rev, .int .i64 2, .slice none 0 0, .int .i64 0] 153)).alloc (.cells #[.pointer (some ⟨wq.heap.size, 0, none⟩)] 154)) := ⟨_, rfl⟩
  rw [← hwr]
  have hlq := hcQ.size
  have lk0 := lt_of_obj hdb
  have lk1 := lt_of_obj hkb
  have hcR : Chg [] wq wr := by rw [hwr]; exact ((Chg.refl [] wq).alloc _).alloc _
  have hres : wr.heap[wq.heap.size]? = some (.cells #[.slice none 0 0, .string ⟨#[]⟩, .int .i64 d.S.rev, .int .i64 d.S.rev, .int .i64 2, .slice none 0 0, .int .i64 0] 153 (0, 0)) := by rw [hwr]; exact (heap_past _ _ _ (by simp)).trans (heap_at _ _ _ rfl)
  have hcr : wr.heap[wq.heap.size + 1]? = some (.cells #[.pointer (some ⟨wq.heap.size, 0, none⟩)] 154 (0, 0)) := by rw [hwr]; exact heap_at _ _ _ (by simp)
  clear hwr
  have hdb' := (hcR.block _ lk0 (by simp)).trans hdb
  have hkb' := (hcR.block _ lk1 (by simp)).trans hkb
  have hcwr : Chg [] w wr := hcQ.trans hcR
  have hnm : ∀ g, w.heap.size ≤ g → g ∉ d.muts b ∧ g ∉ d.imms := fun g hg => ⟨fun hm => by have := H.out.mem.lt g hm; omega, fun hm => by have := H.out.mem.bound g hm; omega⟩
  have hnr : ∀ g, w.heap.size ≤ g → ¬ RO g := fun g hg hr => by have := (H.out.ro g hr).1; omega
  have hga : GAt w0 RO b K (Kk (k1, k2, k3)) w d w.heap.size (wq.heap.size + 1) wq.heap.size d.S.rev (d.pl, [], 2) wr d none 0 :=
    ⟨H.out.new hcwr, Next.new H.out.mem hcwr, rfl, hdb', hcr, hres, World.ownsRow_nil _ _ _ _, by simp, by simp, Hks.out, ⟨(hnm _ (by omega)).1, (hnm _ (by omega)).1⟩, ⟨(hnm _ (by omega)).1, (hnm _ (by omega)).2, hnr _ (by omega), by omega, by omega, by omega⟩, by simp [oblk]⟩
  have hgi : GI w0 RO b K (Kk (k1, k2, k3)) w d w.heap.size (wq.heap.size + 1) wq.heap.size d.S.rev (fun g => g = w.heap.size + 1) (d.pl, [], 2) wr :=
    ⟨d, none, 0, hga, fun g hg => by subst hg; exact ⟨by omega, (hnm _ (by omega)).1, (hnm _ (by omega)).2, by omega, by simp [oblk]⟩, fun g hg => by subst hg; exact lt_of_obj hkb'⟩
  refine wp_region_T (fun w' => w'.cell? ⟨wq.heap.size + 1, 0, none⟩ = some (.pointer (some ⟨wq.heap.size, 0, none⟩)) ∧ w'.cell? ⟨w.heap.size, 0, none⟩ = some (.pointer (some ⟨b, 0, none⟩)) ∧ w'.cell? ⟨b, 0, none⟩ = some (.func (.func cf) #[] ccaps) ∧ w'.cell? ⟨w.heap.size + 1, 0, none⟩ = some (.int .i64 k1) ∧ w'.cell? ⟨w.heap.size + 1, 1, none⟩ = some (.int .i64 k2) ∧ w'.cell? ⟨w.heap.size + 1, 2, none⟩ = some (.int .i64 k3)) 11 (by kernel_rfl) ?_
  intro wd hwd
  have hcd : Chg [] wr wd := by rw [hwd]; exact (Chg.refl _ _).drew
  have hgid : GI w0 RO b K (Kk (k1, k2, k3)) w d w.heap.size (wq.heap.size + 1) wq.heap.size d.S.rev (fun g => g = w.heap.size + 1) (d.pl, [], 2) wd := (hgi.keep (hcd.p (S := fun g => g = w.heap.size + 1 ∧ ¬ GRO RO w.heap.size (wq.heap.size + 1) g))).anti fun _ h => Or.inl h
  have hSW : wd.cell? ⟨wq.heap.size + 1, 0, none⟩ = some (.pointer (some ⟨wq.heap.size, 0, none⟩)) ∧ wd.cell? ⟨w.heap.size, 0, none⟩ = some (.pointer (some ⟨b, 0, none⟩)) ∧ wd.cell? ⟨b, 0, none⟩ = some (.func (.func cf) #[] ccaps) ∧ wd.cell? ⟨w.heap.size + 1, 0, none⟩ = some (.int .i64 k1) ∧ wd.cell? ⟨w.heap.size + 1, 1, none⟩ = some (.int .i64 k2) ∧ wd.cell? ⟨w.heap.size + 1, 2, none⟩ = some (.int .i64 k3) :=
    ⟨cell_of_heap ((hcd.block _ (lt_of_obj hcr) (by simp)).trans hcr) rfl, cell_of_heap ((hcd.block _ (lt_of_obj hdb') (by simp)).trans hdb') rfl, ((hcwr.trans hcd).cell (p := ⟨b, 0, none⟩) lb (by simp)).trans q0, cell_of_heap ((hcd.block _ (lt_of_obj hkb') (by simp)).trans hkb') rfl, cell_of_heap ((hcd.block _ (lt_of_obj hkb') (by simp)).trans hkb') rfl, cell_of_heap ((hcd.block _ (lt_of_obj hkb') (by simp)).trans hkb') rfl⟩
  have vfam := rget_fam (cdb := w.heap.size) (cr := wq.heap.size + 1) (rb := wq.heap.size) (ver := d.S.rev) (ws := w) (ds := d) fam ⟨Hc.out, Hs.out⟩ fin
  have Hcall := Lib.hid (cfam.call _ _ _ _ _ _ _ wd (k1, k2, k3) vfam hkc hgid (fun g hg => Or.inl hg) (fun g hg => (((hcwr.trans hcd).block g (H.out.ro g hg).1 (by simp)).trans (H.out.ro g hg).2.1)))
  have henter := cfam.enter
  have hmf : ∀ (fn : Fn) (first cap : Array Value) (w : World), (Instr.makeFunc fn first cap).run Try.prog w = .ok (.func fn first cap) w := fun _ _ _ _ => rfl
  have Hkb := Lib.hid ((hcd.block _ (lt_of_obj hkb') (by simp)).trans hkb')
  have Hsz := Lib.hid (And.intro hlq (And.intro lk0 lk1))
  clear hwd hgi hga hgid hdb hkb hdb' hkb' hcr hres hcR hcQ hcd hcwr hnm hnr vfam q0 q1 q4 nb lb1 lb2
  unfold i3v at Hcall
  refine anyT_take (i := 0) (v := .pointer (some ⟨wq.heap.size, 0, none⟩)) rfl (by kernel_rfl) (fun _ _ _ h => h) (Or.inl ⟨by rfl, fun w' hS => by go_simp⟩) hSW ?_
  simp only [Act.put, List.setIfInBounds_toArray, List.set_cons_zero, List.set_cons_succ]
  refine anyT_take (i := 1) (v := .pointer (some ⟨b, 0, none⟩)) rfl (by kernel_rfl) (fun _ _ _ h => h) (Or.inl ⟨by rfl, fun w' hS => by go_simp⟩) hSW ?_
  simp only [Act.put, List.setIfInBounds_toArray, List.set_cons_zero, List.set_cons_succ]
  refine anyT_pure (i := 2) (v := .pointer (some ⟨b, 0, none⟩)) rfl (by kernel_rfl) (fun _ _ _ h => h) (Or.inl ⟨by rfl, fun w' hS => by go_simp⟩) hSW ?_
  simp only [Act.put, List.setIfInBounds_toArray, List.set_cons_zero, List.set_cons_succ]
  refine anyT_pure (i := 3) (v := .pointer (some ⟨b, 0, none⟩)) rfl (by kernel_rfl) (fun _ _ _ h => h) (Or.inl ⟨by rfl, fun w' hS => by go_simp⟩) hSW ?_
  simp only [Act.put, List.setIfInBounds_toArray, List.set_cons_zero, List.set_cons_succ]
  refine anyT_take (i := 4) (v := .func (.func cf) #[] ccaps) rfl (by kernel_rfl) (fun _ _ _ h => h) (Or.inl ⟨by rfl, fun w' hS => by go_simp⟩) hSW ?_
  simp only [Act.put, List.setIfInBounds_toArray, List.set_cons_zero, List.set_cons_succ]
  refine anyT_take (i := 5) (v := .agg #[.int .i64 k1, .int .i64 k2, .int .i64 k3]) rfl (by kernel_rfl) (fun _ _ _ h => h) (Or.inl ⟨by rfl, fun w' hS => by go_simp⟩) hSW ?_
  simp only [Act.put, List.setIfInBounds_toArray, List.set_cons_zero, List.set_cons_succ]
  refine anyT_pure (i := 6) (v := .func (.func 107) #[] #[.pointer (some ⟨w.heap.size, 0, none⟩), .pointer (some ⟨wq.heap.size + 1, 0, none⟩)]) rfl (by kernel_rfl) (fun _ _ _ h => h) (Or.inl ⟨by rfl, fun w' hS => by go_simp⟩) hSW ?_
  simp only [Act.put, List.setIfInBounds_toArray, List.set_cons_zero, List.set_cons_succ]
  refine anyT_one (k := 7) (by kernel_rfl) rfl (fun K hK => ?_)
  go_simp
  refine Hcall.out.mono ?_
  rintro e w2 ⟨hp1, hp2, hp3⟩
  rcases hu : C (k1, k2, k3) (getP U) (d.pl, [], 2) with ⟨x | xs, s2, deps, dur⟩
  · rw [hu] at hp1 hp2
    simp only at hp1 hp2
    subst hp1
    obtain ⟨d2, da2, dcap2, hg2, _⟩ := hp2
    obtain rfl := hg2.pl
    exact ⟨rfl, RPost.mkErr (U := recompP U C sb) (recompP_err Hsb.out hu) hg2.next rfl⟩
  · rw [hu] at hp1 hp2
    simp only at hp1 hp2
    obtain ⟨a, c, rfl, hints, hsize⟩ := hp1
    obtain ⟨d2, da2, dcap2, hg2, hF2, hFl2⟩ := hp2
    have hpl := hg2.pl
    simp only at hpl
    subst hpl
    have Hu := Lib.hid (recompP_ok (stp := sb) Hsb.out hu)
    have hkb2 := (hp3.block _ (lt_of_obj Hkb.out) (fun h => h.1 rfl)).trans Hkb.out
    have hS2 : w2.cell? ⟨wq.heap.size + 1, 0, none⟩ = some (.pointer (some ⟨wq.heap.size, 0, none⟩)) ∧ w2.cell? ⟨w.heap.size, 0, none⟩ = some (.pointer (some ⟨b, 0, none⟩)) ∧ w2.cell? ⟨b, 0, none⟩ = some (.func (.func cf) #[] ccaps) ∧ w2.cell? ⟨w.heap.size + 1, 0, none⟩ = some (.int .i64 k1) ∧ w2.cell? ⟨w.heap.size + 1, 1, none⟩ = some (.int .i64 k2) ∧ w2.cell? ⟨w.heap.size + 1, 2, none⟩ = some (.int .i64 k3) :=
      ⟨cell_of_heap hg2.bre rfl, cell_of_heap hg2.bdb rfl, (cell_of_heap hg2.env.mem.blk (i := 0) rfl).trans (by rw [← Hc.out, ← hg2.next.comp]; rfl), cell_of_heap hkb2 rfl, cell_of_heap hkb2 rfl, cell_of_heap hkb2 rfl⟩
    have Hg2 := Lib.hid hg2
    have Hkb2 := Lib.hid hkb2
    have Hcl := Lib.hid (Inp.memoClone w2 _ ⟨#[]⟩ xs hints hsize)
    clear hu hp3 hg2 hF2 hFl2 hints hSW hkb2
    refine hK _ _ (fun _ => hS2) ?_
    clear hK K
    refine anyT_one (k := 8) (by kernel_rfl) rfl (fun K hK => ?_)
    go_simp
    refine Hcl.out.mono ?_
    rintro e w3 ⟨a3, c3, rfl, hi3, hn3, hc3⟩
    have hS3 := And.intro ((hc3.cell (lt_of_cell hS2.1) (by simp)).trans hS2.1) (And.intro ((hc3.cell (lt_of_cell hS2.2.1) (by simp)).trans hS2.2.1) (And.intro ((hc3.cell (lt_of_cell hS2.2.2.1) (by simp)).trans hS2.2.2.1) (And.intro ((hc3.cell (lt_of_cell hS2.2.2.2.1) (by simp)).trans hS2.2.2.2.1) (And.intro ((hc3.cell (lt_of_cell hS2.2.2.2.2.1) (by simp)).trans hS2.2.2.2.2.1) ((hc3.cell (lt_of_cell hS2.2.2.2.2.2) (by simp)).trans hS2.2.2.2.2.2)))))
    have hg3 := Hg2.out.new hc3
    have hkb3 := (hc3.block _ (lt_of_obj Hkb2.out) (by simp)).trans Hkb2.out
    have lt3 : ∀ g ∈ oblk a3, g < w3.heap.size := fun g hg => by
      rcases hi3 with ⟨e, _⟩ | ⟨g', off, cap, cc, fr, e, _, _, hh, _⟩
      · simp only [Value.slice.injEq] at e; rw [e.1] at hg; simp [oblk] at hg
      · simp only [Value.slice.injEq] at e; rw [e.1] at hg; simp [oblk] at hg; subst hg; exact lt_of_obj hh
    obtain ⟨w4, hw4⟩ : ∃ x, x = (w3.setCell ⟨wq.heap.size, 0, none⟩ (.slice a3 xs.length c3)).setCell ⟨wq.heap.size, 1, none⟩ (.string ⟨#[]⟩) := ⟨_, rfl⟩
    have hfin := hg3.fin hi3 hsize (fun ad had => ⟨fun hm => by have h1 := Hg2.out.env.mem.lt _ hm; have h2 := hn3 ad had; omega, fun e => by have h1 := lt_of_obj Hg2.out.res; have h2 := hn3 ad had; omega⟩) lt3 hw4 (r := ⟨wq.heap.size, a3, c3, xs, d.S.rev, d.S.rev, dur, da2, dcap2, deps, 0⟩) rfl
    have Hw4 := Lib.hid hw4
    clear hw4
    have hrc := cell_of_heap hg3.res (i := 0) rfl
    have hrc1 := cell_of_heap hg3.res (i := 1) rfl
    have hrf := frozen_of_heap hg3.res (i := 0)
    have hrf1 := frozen_of_heap hg3.res (i := 1)
    have hnewa : ∀ ad, a3 = some ad → w.heap.size ≤ ad.block := fun ad had => by
      have h1 := hn3 ad had
      have h2 := Hg2.out.next.chg.size
      omega
    have Hnewa := Lib.hid hnewa
    have Hkb3 := Lib.hid hkb3
    have Hboxes := Lib.hid (And.intro hg3.bdb hg3.bre)
    have Habox := Lib.hid (And.intro hg3.abox hg3.ares.2.2.2)
    have Hfin := Lib.hid hfin
    clear hi3 hn3 hc3 hS2 hg3 hkb3 lt3 hfin hnewa hsize
    refine hK _ _ (fun _ => hS3) ?_
    clear hK K
    refine anyT_one (k := 9) (by kernel_rfl) rfl (fun K hK => ?_)
    go_simp
    refine hK _ _ (fun _ => hS3) ?_
    clear hK K
    refine anyT_one (k := 10) (by kernel_rfl) rfl (fun K hK => ?_)
    go_simp
    refine hK _ _ (fun _ => hS3) ?_
    clear hK K
    refine anyT_one (k := 11) (by kernel_rfl) rfl (fun K hK => ?_)
    go_simp
    refine hK _ _ (fun h => by simp at h) ?_
    clear hK K hS3
    refine anyT_done (by kernel_rfl) ?_
    go_wp2_with fail
    rw [← Hw4.out]
    have hf4 := Hfin.out
    clear Hw4 Hfin
    obtain ⟨hen, hn4, hr4, hi4, hb1, hb2, hb3, hb4, hc4⟩ := hf4
    have Hn4 := Lib.hid hn4
    have Hr4 := Lib.hid (And.intro hr4 hi4)
    have Hrb := Lib.hid (show wq.heap.size ∉ d2.muts b ∧ wq.heap.size ∉ d2.imms ∧ w.heap.size ≤ wq.heap.size ∧ ∀ g ∈ oblk a3 ++ oblk da2, w.heap.size ≤ g from ⟨hb1, hb2, hb3, fun g hg => by
      rcases List.mem_append.1 hg with hg | hg
      · cases a3 with
        | none => simp [oblk] at hg
        | some ad => simp [oblk] at hg; subst hg; exact Hnewa.out ad rfl
      · exact hb4 g hg⟩)
    have Hbx4 := Lib.hid (And.intro ((hc4.block _ (lt_of_obj Hboxes.out.1) (fun e => Habox.out.2.1 e.symm)).trans Hboxes.out.1) (And.intro ((hc4.block _ (lt_of_obj Hboxes.out.2) (fun e => Habox.out.2.2.1 e.symm)).trans Hboxes.out.2) ((hc4.block _ (lt_of_obj Hkb3.out) (fun e => by have h1 := Hsz.out.2.2; omega)).trans Hkb3.out)))
    clear hen hn4 hr4 hi4 hb1 hb2 hb3 hb4 hc4 hrc hrc1 hrf hrf1
    have c0 : w4.cell? ⟨w.heap.size, 0, none⟩ = some (.pointer (some ⟨b, 0, none⟩)) := cell_of_heap Hbx4.out.1 rfl
    have c2 : w4.cell? ⟨b, 2, none⟩ = some (.map (some d2.br)) := cell_of_heap Hn4.out.mem.blk rfl
    have e0 : w4.cell? ⟨w.heap.size + 1, 0, none⟩ = some (.int .i64 k1) := cell_of_heap Hbx4.out.2.2 rfl
    have e1 : w4.cell? ⟨w.heap.size + 1, 1, none⟩ = some (.int .i64 k2) := cell_of_heap Hbx4.out.2.2 rfl
    have e2 : w4.cell? ⟨w.heap.size + 1, 2, none⟩ = some (.int .i64 k3) := cell_of_heap Hbx4.out.2.2 rfl
    refine wp_region_readsQ 6 (by kernel_rfl) (by kernel_rfl) ?_
    intro wd hwd
    simp only [List.take_succ_cons, List.take_zero, List.drop_succ_cons, List.drop_zero]
    have hcd : Chg [] w4 wd := by rw [hwd]; exact (Chg.refl _ _).drew
    have c0d := (hcd.cell (lt_of_cell c0) (by simp)).trans c0
    have c2d := (hcd.cell (lt_of_cell c2) (by simp)).trans c2
    have e0d := (hcd.cell (lt_of_cell e0) (by simp)).trans e0
    have e1d := (hcd.cell (lt_of_cell e1) (by simp)).trans e1
    have e2d := (hcd.cell (lt_of_cell e2) (by simp)).trans e2
    have hlk := ((Hn4.out.thenNew hcd).mem.res.lookup Inp.qkeyed Inp.qk_inj Try.underlying112 (Inp.qkOk Hkey.out) (ptr_zero wd) false)
    rw [aget_amap] at hlk
    unfold Inp.qk at hlk
    have Hn5 := Lib.hid (Hn4.out.thenNew hcd)
    have Hr5 := Lib.hid (And.intro (Hr4.out.1.kept (hcd.block _ (lt_of_obj Hr4.out.1.blk) (by simp)) fun g hg => hcd.block g (Hr4.out.2 g hg).2.2 (by simp)) (fun g hg => (⟨(Hr4.out.2 g hg).1, (Hr4.out.2 g hg).2.1, Nat.lt_of_lt_of_le (Hr4.out.2 g hg).2.2 hcd.size⟩ : g ∉ d2.muts b ∧ g ≠ wq.heap.size ∧ g < wd.heap.size)))
    have Hbx := Lib.hid (And.intro ((hcd.block _ (lt_of_obj Hbx4.out.1) (by simp)).trans Hbx4.out.1) (And.intro ((hcd.block _ (lt_of_obj Hbx4.out.2.1) (by simp)).trans Hbx4.out.2.1) ((hcd.block _ (lt_of_obj Hbx4.out.2.2) (by simp)).trans Hbx4.out.2.2)))
    clear hwd c0 c2 e0 e1 e2 hcd
    cases hold : aget d2.es (k1, k2, k3) with
    | none =>
      rw [hold] at hlk
      simp only [Option.map_none, Option.getD_none, Bool.false_eq_true, if_false] at hlk
      have HU := Lib.hid (show recompP U C sb d.pl (k1, k2, k3) = (.ok (), { d2.pl with es := ups d2.pl.es (k1, k2, k3) (Rs.pl ⟨wq.heap.size, a3, c3, xs, d.S.rev, d.S.rev, dur, da2, dcap2, deps, 0⟩), cnt := wrap64 (d2.cnt + 1) }) by
        rw [Hu.out]
        unfold newRes
        rw [Dm.aget_pl, hold]
        rfl)
      clear hold
      repeat go_big_quiet_step (fail)
      refine wpQuiet_nil ?_
      clear hlk c0d c2d e0d e1d e2d
      go_wp2_with fail
      refine wp_region_readsQ 22 (by kernel_rfl) (by kernel_rfl) ?_
      intro w5 hw5
      simp only [List.take_succ_cons, List.take_zero, List.drop_succ_cons, List.drop_zero]
      have hce : Chg [] wd w5 := by rw [hw5]; exact (Chg.refl _ _).drew
      have Hn5 := Lib.hid (Hn5.out.thenNew hce)
      have Hr5 := Lib.hid (And.intro (Hr5.out.1.kept (hce.block _ (lt_of_obj Hr5.out.1.blk) (by simp)) fun g hg => hce.block g (Hr5.out.2 g hg).2.2 (by simp)) (fun g hg => (⟨(Hr5.out.2 g hg).1, (Hr5.out.2 g hg).2.1, Nat.lt_of_lt_of_le (Hr5.out.2 g hg).2.2 hce.size⟩ : g ∉ d2.muts b ∧ g ≠ wq.heap.size ∧ g < w5.heap.size)))
      have Hbx := Lib.hid (And.intro ((hce.block _ (lt_of_obj Hbx.out.1) (by simp)).trans Hbx.out.1) (And.intro ((hce.block _ (lt_of_obj Hbx.out.2.1) (by simp)).trans Hbx.out.2.1) ((hce.block _ (lt_of_obj Hbx.out.2.2) (by simp)).trans Hbx.out.2.2)))
      clear hw5 hce
      repeat go_big_quiet_step (fail)
      refine wpQuiet_nil ?_
      go_wp2_with fail
      have c0 : w5.cell? ⟨w.heap.size, 0, none⟩ = some (.pointer (some ⟨b, 0, none⟩)) := cell_of_heap Hbx.out.1 rfl
      have c1 : w5.cell? ⟨wq.heap.size + 1, 0, none⟩ = some (.pointer (some ⟨wq.heap.size, 0, none⟩)) := cell_of_heap Hbx.out.2.1 rfl
      have c2 : w5.cell? ⟨b, 2, none⟩ = some (.map (some d2.br)) := cell_of_heap Hn5.out.mem.blk rfl
      have e0 : w5.cell? ⟨w.heap.size + 1, 0, none⟩ = some (.int .i64 k1) := cell_of_heap Hbx.out.2.2 rfl
      have e1 : w5.cell? ⟨w.heap.size + 1, 1, none⟩ = some (.int .i64 k2) := cell_of_heap Hbx.out.2.2 rfl
      have e2 : w5.cell? ⟨w.heap.size + 1, 2, none⟩ = some (.int .i64 k3) := cell_of_heap Hbx.out.2.2 rfl
      refine wp_region_readsQ 6 (by kernel_rfl) (by kernel_rfl) ?_
      intro wd hwd
      simp only [List.take_succ_cons, List.take_zero, List.drop_succ_cons, List.drop_zero]
      have hcd : Chg [] w5 wd := by rw [hwd]; exact (Chg.refl _ _).drew
      have c0d := (hcd.cell (lt_of_cell c0) (by simp)).trans c0
      have c1d := (hcd.cell (lt_of_cell c1) (by simp)).trans c1
      have c2d := (hcd.cell (lt_of_cell c2) (by simp)).trans c2
      have e0d := (hcd.cell (lt_of_cell e0) (by simp)).trans e0
      have e1d := (hcd.cell (lt_of_cell e1) (by simp)).trans e1
      have e2d := (hcd.cell (lt_of_cell e2) (by simp)).trans e2
      have hnd := Hn5.out.thenNew hcd
      obtain ⟨o, hupd, hmap⟩ := hnd.mem.res.update Inp.qkeyed Inp.qk_inj Try.underlying112 (Inp.qkOk Hkey.out) (Rs.val ⟨wq.heap.size, a3, c3, xs, d.S.rev, d.S.rev, dur, da2, dcap2, deps, 0⟩)
      have hne : b ≠ d2.br := by
        have := hnd.mem.nodup
        unfold Dm.muts at this
        simp only [List.nodup_cons, List.mem_cons, not_or] at this
        exact this.1.2.2.1
      have hbl : (setBlock wd d2.br o).heap[b]? = wd.heap[b]? := ((Chg.refl [d2.br] wd).setBlock (Or.inl (by simp)) o).block b (lt_of_obj hnd.mem.blk) (by simpa using hne)
      have hbb := hbl.trans hnd.mem.blk
      have b5 : (setBlock wd d2.br o).cell? ⟨b, 5, none⟩ = some (.int .i64 d2.cnt) := cell_of_heap hbb rfl
      have f5 := frozen_of_heap hbb (i := 5)
      have hmbr : d2.br ∈ d2.muts b := by simp [Dm.muts]
      have c0f : (setBlock wd d2.br o).cell? ⟨w.heap.size, 0, none⟩ = some (.pointer (some ⟨b, 0, none⟩)) := (cell_setBlock (fun e => Habox.out.1.1 (by rw [show w.heap.size = d2.br from e]; exact hmbr))).trans c0d
      have c1f : (setBlock wd d2.br o).cell? ⟨wq.heap.size + 1, 0, none⟩ = some (.pointer (some ⟨wq.heap.size, 0, none⟩)) := (cell_setBlock (fun e => Habox.out.1.2 (by rw [show wq.heap.size + 1 = d2.br from e]; exact hmbr))).trans c1d
      have Hend := Lib.hid (rec_end (n := wrap64 (d2.cnt + 1)) hnd (Hr5.out.1.kept (hcd.block _ (lt_of_obj Hr5.out.1.blk) (by simp)) fun g hg => hcd.block g (Hr5.out.2 g hg).2.2 (by simp)) (fun g hg => ⟨(Hr5.out.2 g hg).1, (Hr5.out.2 g hg).2.1, Nat.lt_of_lt_of_le (Hr5.out.2 g hg).2.2 hcd.size⟩) Hrb.out.1 Hrb.out.2.1 Hrb.out.2.2.1 Hrb.out.2.2.2 hmap HU.out)
      unfold Rs.val at hupd Hend
      unfold Inp.qk at hupd
      clear hwd c0 c1 c2 e0 e1 e2 hcd hnd hmap hne hbl hbb hmbr
      repeat go_big_quiet_step (fail)
      refine wpQuiet_nil ?_
      go_wp2_with fail
      go_ret
      exact Hend.out
    | some old =>
      rw [hold] at hlk
      simp only [Option.map_some, Option.getD_some, Bool.false_eq_true, if_false] at hlk
      unfold Rs.val at hlk
      have Hold := Lib.hid hold
      clear hold
      repeat go_big_quiet_step (fail)
      refine wpQuiet_nil ?_
      clear hlk c0d c2d e0d e1d e2d
      go_wp2_with fail
      refine wp_region_readsQ 22 (by kernel_rfl) (by kernel_rfl) ?_
      intro w5 hw5
      simp only [List.take_succ_cons, List.take_zero, List.drop_succ_cons, List.drop_zero]
      have hce : Chg [] wd w5 := by rw [hw5]; exact (Chg.refl _ _).drew
      have Hn5 := Lib.hid (Hn5.out.thenNew hce)
      have Hr5 := Lib.hid (And.intro (Hr5.out.1.kept (hce.block _ (lt_of_obj Hr5.out.1.blk) (by simp)) fun g hg => hce.block g (Hr5.out.2 g hg).2.2 (by simp)) (fun g hg => (⟨(Hr5.out.2 g hg).1, (Hr5.out.2 g hg).2.1, Nat.lt_of_lt_of_le (Hr5.out.2 g hg).2.2 hce.size⟩ : g ∉ d2.muts b ∧ g ≠ wq.heap.size ∧ g < w5.heap.size)))
      have Hbx := Lib.hid (And.intro ((hce.block _ (lt_of_obj Hbx.out.1) (by simp)).trans Hbx.out.1) (And.intro ((hce.block _ (lt_of_obj Hbx.out.2.1) (by simp)).trans Hbx.out.2.1) ((hce.block _ (lt_of_obj Hbx.out.2.2) (by simp)).trans Hbx.out.2.2)))
      clear hw5 hce
      have o0 : w5.cell? ⟨old.blk, 0, none⟩ = some (.slice old.a old.xs.length old.cap) := cell_of_heap (Hn5.out.mem.rs Hold.out).blk rfl
      have o1 : w5.cell? ⟨old.blk, 1, none⟩ = some (.string ⟨#[]⟩) := cell_of_heap (Hn5.out.mem.rs Hold.out).blk rfl
      have o4 : w5.cell? ⟨old.blk, 4, none⟩ = some (.int .i64 old.dur) := cell_of_heap (Hn5.out.mem.rs Hold.out).blk rfl
      have r0 : w5.cell? ⟨wq.heap.size, 0, none⟩ = some (.slice a3 xs.length c3) := cell_of_heap Hr5.out.1.blk rfl
      have r1 : w5.cell? ⟨wq.heap.size, 1, none⟩ = some (.string ⟨#[]⟩) := cell_of_heap Hr5.out.1.blk rfl
      have r4 : w5.cell? ⟨wq.heap.size, 4, none⟩ = some (.int .i64 dur) := cell_of_heap Hr5.out.1.blk rfl
      have c1 : w5.cell? ⟨wq.heap.size + 1, 0, none⟩ = some (.pointer (some ⟨wq.heap.size, 0, none⟩)) := cell_of_heap Hbx.out.2.1 rfl
      by_cases hdur : old.dur ≤ dur
      · by_cases hxs : old.xs = xs
        · have Heq := Lib.hid (Inp.inputsEqual w5 _ _ ⟨#[]⟩ ⟨#[]⟩ old.xs xs (Hn5.out.mem.rs Hold.out).nums Hr5.out.1.nums)
          have HU := Lib.hid (show recompP U C sb d.pl (k1, k2, k3) = (.ok (), { d2.pl with es := ups d2.pl.es (k1, k2, k3) (Rs.pl ⟨wq.heap.size, a3, c3, xs, d.S.rev, old.chg, dur, da2, dcap2, deps, 0⟩), cnt := wrap64 (d2.cnt + 1) }) by
            rw [Hu.out]
            unfold newRes
            rw [Dm.aget_pl, Hold.out]
            simp only [Option.map_some]
            rw [if_pos (show old.pl.dur ≤ dur ∧ old.pl.xs = xs from ⟨hdur, hxs⟩)]
            rfl)
          have Hdec := Lib.hid (show decide ((⟨#[]⟩ : ByteArray) = ⟨#[]⟩ ∧ old.xs = xs) = true from decide_eq_true ⟨rfl, hxs⟩)
          clear hxs
          repeat go_big_quiet_step (fail)
          refine wpQuiet_nil ?_
          go_wp2_with fail
          refine Heq.out.mono ?_
          rintro e w6 ⟨rfl, hc6⟩
          rw [Hdec.out]
          have Hn5 := Lib.hid (Hn5.out.thenNew hc6)
          have Hr5 := Lib.hid (And.intro (Hr5.out.1.kept (hc6.block _ (lt_of_obj Hr5.out.1.blk) (by simp)) fun g hg => hc6.block g (Hr5.out.2 g hg).2.2 (by simp)) (fun g hg => (⟨(Hr5.out.2 g hg).1, (Hr5.out.2 g hg).2.1, Nat.lt_of_lt_of_le (Hr5.out.2 g hg).2.2 hc6.size⟩ : g ∉ d2.muts b ∧ g ≠ wq.heap.size ∧ g < w6.heap.size)))
          have Hbx := Lib.hid (And.intro ((hc6.block _ (lt_of_obj Hbx.out.1) (by simp)).trans Hbx.out.1) (And.intro ((hc6.block _ (lt_of_obj Hbx.out.2.1) (by simp)).trans Hbx.out.2.1) ((hc6.block _ (lt_of_obj Hbx.out.2.2) (by simp)).trans Hbx.out.2.2)))
          clear hc6 o0 o1 o4 r0 r1 r4 c1
          have o3 : w6.cell? ⟨old.blk, 3, none⟩ = some (.int .i64 old.chg) := cell_of_heap (Hn5.out.mem.rs Hold.out).blk rfl
          have r3 : w6.cell? ⟨wq.heap.size, 3, none⟩ = some (.int .i64 d.S.rev) := cell_of_heap Hr5.out.1.blk rfl
          have f3 := frozen_of_heap Hr5.out.1.blk (i := 3)
          have c1 : w6.cell? ⟨wq.heap.size + 1, 0, none⟩ = some (.pointer (some ⟨wq.heap.size, 0, none⟩)) := cell_of_heap Hbx.out.2.1 rfl
          go_wp2_with fail
          refine wp_region_readsQ 5 (by kernel_rfl) (by kernel_rfl) ?_
          intro w7 hw7
          simp only [List.take_succ_cons, List.take_zero, List.drop_succ_cons, List.drop_zero]
          have hce : Chg [] w6 w7 := by rw [hw7]; exact (Chg.refl _ _).drew
          have o3d := (hce.cell (lt_of_cell o3) (by simp)).trans o3
          have r3d := (hce.cell (lt_of_cell r3) (by simp)).trans r3
          have f3d := (hce.frozen (p := ⟨wq.heap.size, 3, none⟩) (lt_of_cell r3) (by simp)).trans f3
          have c1d := (hce.cell (lt_of_cell c1) (by simp)).trans c1
          have Hn5 := Lib.hid (Hn5.out.thenNew hce)
          have Hr5 := Lib.hid (And.intro (Hr5.out.1.kept (hce.block _ (lt_of_obj Hr5.out.1.blk) (by simp)) fun g hg => hce.block g (Hr5.out.2 g hg).2.2 (by simp)) (fun g hg => (⟨(Hr5.out.2 g hg).1, (Hr5.out.2 g hg).2.1, Nat.lt_of_lt_of_le (Hr5.out.2 g hg).2.2 hce.size⟩ : g ∉ d2.muts b ∧ g ≠ wq.heap.size ∧ g < w7.heap.size)))
          have Hbx := Lib.hid (And.intro ((hce.block _ (lt_of_obj Hbx.out.1) (by simp)).trans Hbx.out.1) (And.intro ((hce.block _ (lt_of_obj Hbx.out.2.1) (by simp)).trans Hbx.out.2.1) ((hce.block _ (lt_of_obj Hbx.out.2.2) (by simp)).trans Hbx.out.2.2)))
          clear hw7 hce o3 r3 f3 c1
          repeat go_big_quiet_step (fail)
          refine wpQuiet_nil ?_
          go_wp2_with fail
          obtain ⟨w5, hw5⟩ : ∃ x, x = w7.setCell ⟨wq.heap.size, 3, none⟩ (.int .i64 old.chg) := ⟨_, rfl⟩
          rw [← hw5]
          have hcs : ChgP (fun g => g = wq.heap.size) w7 w5 := by rw [hw5]; exact (ChgP.refl (fun g => g = wq.heap.size) w7).setCell (p := ⟨wq.heap.size, 3, none⟩) (Or.inl rfl) _
          have hrs := Hr5.out.1.setChg old.chg (fun g hg => (Hr5.out.2 g hg).2.1)
          rw [← hw5] at hrs
          have Hn5 := Lib.hid (Hn5.out.side hcs Hrb.out.1 Hrb.out.2.1 Hrb.out.2.2.1)
          have Hr5 := Lib.hid (And.intro hrs (fun g hg => (⟨(Hr5.out.2 g hg).1, (Hr5.out.2 g hg).2.1, Nat.lt_of_lt_of_le (Hr5.out.2 g hg).2.2 hcs.size⟩ : g ∉ d2.muts b ∧ g ≠ wq.heap.size ∧ g < w5.heap.size)))
          have Hbx := Lib.hid (And.intro ((hcs.block _ (lt_of_obj Hbx.out.1) (fun e => Habox.out.2.1 e.symm)).trans Hbx.out.1) (And.intro ((hcs.block _ (lt_of_obj Hbx.out.2.1) (fun e => Habox.out.2.2.1 e.symm)).trans Hbx.out.2.1) ((hcs.block _ (lt_of_obj Hbx.out.2.2) (fun e => by have h1 := Hsz.out.2.2; omega)).trans Hbx.out.2.2)))
          clear hw5 hcs hrs o3d r3d f3d c1d
          have c0 : w5.cell? ⟨w.heap.size, 0, none⟩ = some (.pointer (some ⟨b, 0, none⟩)) := cell_of_heap Hbx.out.1 rfl
          have c1 : w5.cell? ⟨wq.heap.size + 1, 0, none⟩ = some (.pointer (some ⟨wq.heap.size, 0, none⟩)) := cell_of_heap Hbx.out.2.1 rfl
          have c2 : w5.cell? ⟨b, 2, none⟩ = some (.map (some d2.br)) := cell_of_heap Hn5.out.mem.blk rfl
          have e0 : w5.cell? ⟨w.heap.size + 1, 0, none⟩ = some (.int .i64 k1) := cell_of_heap Hbx.out.2.2 rfl
          have e1 : w5.cell? ⟨w.heap.size + 1, 1, none⟩ = some (.int .i64 k2) := cell_of_heap Hbx.out.2.2 rfl
          have e2 : w5.cell? ⟨w.heap.size + 1, 2, none⟩ = some (.int .i64 k3) := cell_of_heap Hbx.out.2.2 rfl
          refine wp_region_readsQ 6 (by kernel_rfl) (by kernel_rfl) ?_
          intro wd hwd
          simp only [List.take_succ_cons, List.take_zero, List.drop_succ_cons, List.drop_zero]
          have hcd : Chg [] w5 wd := by rw [hwd]; exact (Chg.refl _ _).drew
          have c0d := (hcd.cell (lt_of_cell c0) (by simp)).trans c0
          have c1d := (hcd.cell (lt_of_cell c1) (by simp)).trans c1
          have c2d := (hcd.cell (lt_of_cell c2) (by simp)).trans c2
          have e0d := (hcd.cell (lt_of_cell e0) (by simp)).trans e0
          have e1d := (hcd.cell (lt_of_cell e1) (by simp)).trans e1
          have e2d := (hcd.cell (lt_of_cell e2) (by simp)).trans e2
          have hnd := Hn5.out.thenNew hcd
          obtain ⟨o, hupd, hmap⟩ := hnd.mem.res.update Inp.qkeyed Inp.qk_inj Try.underlying112 (Inp.qkOk Hkey.out) (Rs.val ⟨wq.heap.size, a3, c3, xs, d.S.rev, old.chg, dur, da2, dcap2, deps, 0⟩)
          have hne : b ≠ d2.br := by
            have := hnd.mem.nodup
            unfold Dm.muts at this
            simp only [List.nodup_cons, List.mem_cons, not_or] at this
            exact this.1.2.2.1
          have hbl : (setBlock wd d2.br o).heap[b]? = wd.heap[b]? := ((Chg.refl [d2.br] wd).setBlock (Or.inl (by simp)) o).block b (lt_of_obj hnd.mem.blk) (by simpa using hne)
          have hbb := hbl.trans hnd.mem.blk
          have b5 : (setBlock wd d2.br o).cell? ⟨b, 5, none⟩ = some (.int .i64 d2.cnt) := cell_of_heap hbb rfl
          have f5 := frozen_of_heap hbb (i := 5)
          have hmbr : d2.br ∈ d2.muts b := by simp [Dm.muts]
          have c0f : (setBlock wd d2.br o).cell? ⟨w.heap.size, 0, none⟩ = some (.pointer (some ⟨b, 0, none⟩)) := (cell_setBlock (fun e => Habox.out.1.1 (by rw [show w.heap.size = d2.br from e]; exact hmbr))).trans c0d
          have c1f : (setBlock wd d2.br o).cell? ⟨wq.heap.size + 1, 0, none⟩ = some (.pointer (some ⟨wq.heap.size, 0, none⟩)) := (cell_setBlock (fun e => Habox.out.1.2 (by rw [show wq.heap.size + 1 = d2.br from e]; exact hmbr))).trans c1d
          have Hend := Lib.hid (rec_end (n := wrap64 (d2.cnt + 1)) hnd (Hr5.out.1.kept (hcd.block _ (lt_of_obj Hr5.out.1.blk) (by simp)) fun g hg => hcd.block g (Hr5.out.2 g hg).2.2 (by simp)) (fun g hg => ⟨(Hr5.out.2 g hg).1, (Hr5.out.2 g hg).2.1, Nat.lt_of_lt_of_le (Hr5.out.2 g hg).2.2 hcd.size⟩) Hrb.out.1 Hrb.out.2.1 Hrb.out.2.2.1 Hrb.out.2.2.2 hmap HU.out)
          unfold Rs.val at hupd Hend
          unfold Inp.qk at hupd
          clear hwd c0 c1 c2 e0 e1 e2 hcd hnd hmap hne hbl hbb hmbr
          repeat go_big_quiet_step (fail)
          refine wpQuiet_nil ?_
          go_wp2_with fail
          go_ret
          exact Hend.out
        · have Heq := Lib.hid (Inp.inputsEqual w5 _ _ ⟨#[]⟩ ⟨#[]⟩ old.xs xs (Hn5.out.mem.rs Hold.out).nums Hr5.out.1.nums)
          have HU := Lib.hid (show recompP U C sb d.pl (k1, k2, k3) = (.ok (), { d2.pl with es := ups d2.pl.es (k1, k2, k3) (Rs.pl ⟨wq.heap.size, a3, c3, xs, d.S.rev, d.S.rev, dur, da2, dcap2, deps, 0⟩), cnt := wrap64 (d2.cnt + 1) }) by
            rw [Hu.out]
            unfold newRes
            rw [Dm.aget_pl, Hold.out]
            simp only [Option.map_some]
            rw [if_neg (show ¬ (old.pl.dur ≤ dur ∧ old.pl.xs = xs) from fun h => hxs h.2)]
            rfl)
          have Hdec := Lib.hid (show decide ((⟨#[]⟩ : ByteArray) = ⟨#[]⟩ ∧ old.xs = xs) = false from decide_eq_false (fun h => hxs h.2))
          clear hxs
          repeat go_big_quiet_step (fail)
          refine wpQuiet_nil ?_
          go_wp2_with fail
          refine Heq.out.mono ?_
          rintro e w6 ⟨rfl, hc6⟩
          rw [Hdec.out]
          have Hn5 := Lib.hid (Hn5.out.thenNew hc6)
          have Hr5 := Lib.hid (And.intro (Hr5.out.1.kept (hc6.block _ (lt_of_obj Hr5.out.1.blk) (by simp)) fun g hg => hc6.block g (Hr5.out.2 g hg).2.2 (by simp)) (fun g hg => (⟨(Hr5.out.2 g hg).1, (Hr5.out.2 g hg).2.1, Nat.lt_of_lt_of_le (Hr5.out.2 g hg).2.2 hc6.size⟩ : g ∉ d2.muts b ∧ g ≠ wq.heap.size ∧ g < w6.heap.size)))
          have Hbx := Lib.hid (And.intro ((hc6.block _ (lt_of_obj Hbx.out.1) (by simp)).trans Hbx.out.1) (And.intro ((hc6.block _ (lt_of_obj Hbx.out.2.1) (by simp)).trans Hbx.out.2.1) ((hc6.block _ (lt_of_obj Hbx.out.2.2) (by simp)).trans Hbx.out.2.2)))
          clear hc6 o0 o1 o4 r0 r1 r4 c1
          go_wp2_with fail
          have c0 : w6.cell? ⟨w.heap.size, 0, none⟩ = some (.pointer (some ⟨b, 0, none⟩)) := cell_of_heap Hbx.out.1 rfl
          have c1 : w6.cell? ⟨wq.heap.size + 1, 0, none⟩ = some (.pointer (some ⟨wq.heap.size, 0, none⟩)) := cell_of_heap Hbx.out.2.1 rfl
          have c2 : w6.cell? ⟨b, 2, none⟩ = some (.map (some d2.br)) := cell_of_heap Hn5.out.mem.blk rfl
          have e0 : w6.cell? ⟨w.heap.size + 1, 0, none⟩ = some (.int .i64 k1) := cell_of_heap Hbx.out.2.2 rfl
          have e1 : w6.cell? ⟨w.heap.size + 1, 1, none⟩ = some (.int .i64 k2) := cell_of_heap Hbx.out.2.2 rfl
          have e2 : w6.cell? ⟨w.heap.size + 1, 2, none⟩ = some (.int .i64 k3) := cell_of_heap Hbx.out.2.2 rfl
          refine wp_region_readsQ 6 (by kernel_rfl) (by kernel_rfl) ?_
          intro wd hwd
          simp only [List.take_succ_cons, List.take_zero, List.drop_succ_cons, List.drop_zero]
          have hcd : Chg [] w6 wd := by rw [hwd]; exact (Chg.refl _ _).drew
          have c0d := (hcd.cell (lt_of_cell c0) (by simp)).trans c0
          have c1d := (hcd.cell (lt_of_cell c1) (by simp)).trans c1
          have c2d := (hcd.cell (lt_of_cell c2) (by simp)).trans c2
          have e0d := (hcd.cell (lt_of_cell e0) (by simp)).trans e0
          have e1d := (hcd.cell (lt_of_cell e1) (by simp)).trans e1
          have e2d := (hcd.cell (lt_of_cell e2) (by simp)).trans e2
          have hnd := Hn5.out.thenNew hcd
          obtain ⟨o, hupd, hmap⟩ := hnd.mem.res.update Inp.qkeyed Inp.qk_inj Try.underlying112 (Inp.qkOk Hkey.out) (Rs.val ⟨wq.heap.size, a3, c3, xs, d.S.rev, d.S.rev, dur, da2, dcap2, deps, 0⟩)
          have hne : b ≠ d2.br := by
            have := hnd.mem.nodup
            unfold Dm.muts at this
            simp only [List.nodup_cons, List.mem_cons, not_or] at this
            exact this.1.2.2.1
          have hbl : (setBlock wd d2.br o).heap[b]? = wd.heap[b]? := ((Chg.refl [d2.br] wd).setBlock (Or.inl (by simp)) o).block b (lt_of_obj hnd.mem.blk) (by simpa using hne)
          have hbb := hbl.trans hnd.mem.blk
          have b5 : (setBlock wd d2.br o).cell? ⟨b, 5, none⟩ = some (.int .i64 d2.cnt) := cell_of_heap hbb rfl
          have f5 := frozen_of_heap hbb (i := 5)
          have hmbr : d2.br ∈ d2.muts b := by simp [Dm.muts]
          have c0f : (setBlock wd d2.br o).cell? ⟨w.heap.size, 0, none⟩ = some (.pointer (some ⟨b, 0, none⟩)) := (cell_setBlock (fun e => Habox.out.1.1 (by rw [show w.heap.size = d2.br from e]; exact hmbr))).trans c0d
          have c1f : (setBlock wd d2.br o).cell? ⟨wq.heap.size + 1, 0, none⟩ = some (.pointer (some ⟨wq.heap.size, 0, none⟩)) := (cell_setBlock (fun e => Habox.out.1.2 (by rw [show wq.heap.size + 1 = d2.br from e]; exact hmbr))).trans c1d
          have Hend := Lib.hid (rec_end (n := wrap64 (d2.cnt + 1)) hnd (Hr5.out.1.kept (hcd.block _ (lt_of_obj Hr5.out.1.blk) (by simp)) fun g hg => hcd.block g (Hr5.out.2 g hg).2.2 (by simp)) (fun g hg => ⟨(Hr5.out.2 g hg).1, (Hr5.out.2 g hg).2.1, Nat.lt_of_lt_of_le (Hr5.out.2 g hg).2.2 hcd.size⟩) Hrb.out.1 Hrb.out.2.1 Hrb.out.2.2.1 Hrb.out.2.2.2 hmap HU.out)
          unfold Rs.val at hupd Hend
          unfold Inp.qk at hupd
          clear hwd c0 c1 c2 e0 e1 e2 hcd hnd hmap hne hbl hbb hmbr
          repeat go_big_quiet_step (fail)
          refine wpQuiet_nil ?_
          go_wp2_with fail
          go_ret
          exact Hend.out
      · have bd : decide (old.dur ≤ dur) = false := by simpa using hdur
        have HU := Lib.hid (show recompP U C sb d.pl (k1, k2, k3) = (.ok (), { d2.pl with es := ups d2.pl.es (k1, k2, k3) (Rs.pl ⟨wq.heap.size, a3, c3, xs, d.S.rev, d.S.rev, dur, da2, dcap2, deps, 0⟩), cnt := wrap64 (d2.cnt + 1) }) by
          rw [Hu.out]
          unfold newRes
          rw [Dm.aget_pl, Hold.out]
          simp only [Option.map_some]
          rw [if_neg (show ¬ (old.pl.dur ≤ dur ∧ old.pl.xs = xs) from fun h => hdur h.1)]
          rfl)
        clear hdur
        repeat go_big_quiet_step (fail)
        refine wpQuiet_nil ?_
        go_wp2_with fail
        clear o0 o1 o4 r0 r1 r4 c1 bd
        have c0 : w5.cell? ⟨w.heap.size, 0, none⟩ = some (.pointer (some ⟨b, 0, none⟩)) := cell_of_heap Hbx.out.1 rfl
        have c1 : w5.cell? ⟨wq.heap.size + 1, 0, none⟩ = some (.pointer (some ⟨wq.heap.size, 0, none⟩)) := cell_of_heap Hbx.out.2.1 rfl
        have c2 : w5.cell? ⟨b, 2, none⟩ = some (.map (some d2.br)) := cell_of_heap Hn5.out.mem.blk rfl
        have e0 : w5.cell? ⟨w.heap.size + 1, 0, none⟩ = some (.int .i64 k1) := cell_of_heap Hbx.out.2.2 rfl
        have e1 : w5.cell? ⟨w.heap.size + 1, 1, none⟩ = some (.int .i64 k2) := cell_of_heap Hbx.out.2.2 rfl
        have e2 : w5.cell? ⟨w.heap.size + 1, 2, none⟩ = some (.int .i64 k3) := cell_of_heap Hbx.out.2.2 rfl
        refine wp_region_readsQ 6 (by kernel_rfl) (by kernel_rfl) ?_
        intro wd hwd
        simp only [List.take_succ_cons, List.take_zero, List.drop_succ_cons, List.drop_zero]
        have hcd : Chg [] w5 wd := by rw [hwd]; exact (Chg.refl _ _).drew
        have c0d := (hcd.cell (lt_of_cell c0) (by simp)).trans c0
        have c1d := (hcd.cell (lt_of_cell c1) (by simp)).trans c1
        have c2d := (hcd.cell (lt_of_cell c2) (by simp)).trans c2
        have e0d := (hcd.cell (lt_of_cell e0) (by simp)).trans e0
        have e1d := (hcd.cell (lt_of_cell e1) (by simp)).trans e1
        have e2d := (hcd.cell (lt_of_cell e2) (by simp)).trans e2
        have hnd := Hn5.out.thenNew hcd
        obtain ⟨o, hupd, hmap⟩ := hnd.mem.res.update Inp.qkeyed Inp.qk_inj Try.underlying112 (Inp.qkOk Hkey.out) (Rs.val ⟨wq.heap.size, a3, c3, xs, d.S.rev, d.S.rev, dur, da2, dcap2, deps, 0⟩)
        have hne : b ≠ d2.br := by
          have := hnd.mem.nodup
          unfold Dm.muts at this
          simp only [List.nodup_cons, List.mem_cons, not_or] at this
          exact this.1.2.2.1
        have hbl : (setBlock wd d2.br o).heap[b]? = wd.heap[b]? := ((Chg.refl [d2.br] wd).setBlock (Or.inl (by simp)) o).block b (lt_of_obj hnd.mem.blk) (by simpa using hne)
        have hbb := hbl.trans hnd.mem.blk
        have b5 : (setBlock wd d2.br o).cell? ⟨b, 5, none⟩ = some (.int .i64 d2.cnt) := cell_of_heap hbb rfl
        have f5 := frozen_of_heap hbb (i := 5)
        have hmbr : d2.br ∈ d2.muts b := by simp [Dm.muts]
        have c0f : (setBlock wd d2.br o).cell? ⟨w.heap.size, 0, none⟩ = some (.pointer (some ⟨b, 0, none⟩)) := (cell_setBlock (fun e => Habox.out.1.1 (by rw [show w.heap.size = d2.br from e]; exact hmbr))).trans c0d
        have c1f : (setBlock wd d2.br o).cell? ⟨wq.heap.size + 1, 0, none⟩ = some (.pointer (some ⟨wq.heap.size, 0, none⟩)) := (cell_setBlock (fun e => Habox.out.1.2 (by rw [show wq.heap.size + 1 = d2.br from e]; exact hmbr))).trans c1d
        have Hend := Lib.hid (rec_end (n := wrap64 (d2.cnt + 1)) hnd (Hr5.out.1.kept (hcd.block _ (lt_of_obj Hr5.out.1.blk) (by simp)) fun g hg => hcd.block g (Hr5.out.2 g hg).2.2 (by simp)) (fun g hg => ⟨(Hr5.out.2 g hg).1, (Hr5.out.2 g hg).2.1, Nat.lt_of_lt_of_le (Hr5.out.2 g hg).2.2 hcd.size⟩) Hrb.out.1 Hrb.out.2.1 Hrb.out.2.2.1 Hrb.out.2.2.2 hmap HU.out)
        unfold Rs.val at hupd Hend
        unfold Inp.qk at hupd
        clear hwd c0 c1 c2 e0 e1 e2 hcd hnd hmap hne hbl hbb hmbr
        repeat go_big_quiet_step (fail)
        refine wpQuiet_nil ?_
        go_wp2_with fail
        go_ret
        exact Hend.out
end
end Go.Proofs.Ytggiddhhbilcjaa
