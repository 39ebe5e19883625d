/- update: what it does to the database in memory. -/
import Derived.Test.YtggiddhhbilcjaaMnI
import Derived.Tactics2
import Derived.Defers
import Derived.Recover
import Derived.Laws.EntriesVeiled
/- update: what it does to the database in memory. -/
namespace Go.Proofs.Ytggiddhhbilcjaa
open Go.RowKit Go.ChangeMaps Go.MapKept
set_option linter.unusedVariables false
set_option linter.unusedSimpArgs false
/-- as 'Next', but for one key -/
structure NextK (x : QK) (b : Nat) (w w' : World) (d d' : Dm) : Prop where
  mem : DmAt w' b d'
  chg : ChgP (fun g => g ∈ d.muts b) w w'
  muts : ∀ g ∈ d'.muts b, g ∈ d.muts b ∨ w.heap.size ≤ g
  imms : ∀ g ∈ d'.imms, g ∈ d.imms ∨ w.heap.size ≤ g
  comp : d'.comp = d.comp
  stop : d'.stop = d.stop
  store : d'.S = d.S
  bs : d'.bs = d.bs
  bsm : d'.bsm = d.bsm
  br : d'.br = d.br
  ba : d'.ba = d.ba
  busy : ∀ k v, k ≠ x → aget d.act k = some v → aget d'.act k = some v ∧ aget d'.es k = aget d.es k
theorem Next.toK {b : Nat} {w w' : World} {d d' : Dm} (h : Next b w w' d d') (x : QK) : NextK x b w w' d d' :=
  ⟨h.mem, h.chg, h.muts, h.imms, h.comp, h.stop, h.store, h.bs, h.bsm, h.br, h.ba, fun k v _ hk => h.busy k v hk⟩
theorem NextX.toK {b : Nat} {x : QK} {w w' : World} {d d' : Dm} (h : NextX x b w w' d d') : NextK x b w w' d d' :=
  ⟨h.mem, h.chg, h.muts, h.imms, h.comp, h.stop, h.store, h.bs, h.bsm, h.br, h.ba, fun k v hne hk => ⟨(h.busy k v hk).1, (h.busy k v hk).2 hne⟩⟩
theorem NextK.trans {b : Nat} {x : QK} {w w1 w2 : World} {d d1 d2 : Dm} (h : NextK x b w w1 d d1) (k : NextK x b w1 w2 d1 d2) : NextK x b w w2 d d2 where
  mem := k.mem
  chg := h.chg.comp k.chg h.muts
  muts g hg := (k.muts g hg).elim (h.muts g) fun hs => .inr (Nat.le_trans h.chg.size hs)
  imms g hg := (k.imms g hg).elim (h.imms g) fun hs => .inr (Nat.le_trans h.chg.size hs)
  comp := k.comp.trans h.comp
  stop := k.stop.trans h.stop
  store := k.store.trans h.store
  bs := k.bs.trans h.bs
  bsm := k.bsm.trans h.bsm
  br := k.br.trans h.br
  ba := k.ba.trans h.ba
  busy y v hne hx := by
    obtain ⟨h1, h2⟩ := h.busy y v hne hx
    obtain ⟨k1, k2⟩ := k.busy y v hne h1
    exact ⟨k1, k2.trans h2⟩
theorem NextK.toNext {b : Nat} {x : QK} {w w' : World} {d d' : Dm} (h : NextK x b w w' d d') (hx : aget d.act x = none) : Next b w w' d d' :=
  ⟨h.mem, h.chg, h.muts, h.imms, h.comp, h.stop, h.store, h.bs, h.bsm, h.br, h.ba, fun k v hk => h.busy k v (fun e => by rw [e, hx] at hk; cases hk) hk⟩
theorem Env.nextK {w0 : World} {RO : Nat → Prop} {b : Nat} {x : QK} {w w' : World} {d d' : Dm} (h : Env w0 RO b w d) (k : NextK x b w w' d d') : Env w0 RO b w' d' :=
  ⟨k.mem, fun g hg => by
    obtain ⟨h1, h2, h3⟩ := h.ro g hg
    exact ⟨Nat.lt_of_lt_of_le h1 k.chg.size, (k.chg.block g h1 h3).trans h2, fun hm => (k.muts g hm).elim h3 fun hs => by omega⟩⟩
theorem Dm.parts {d : Dm} {b : Nat} (h : (d.muts b).Nodup) : b ≠ d.bs ∧ b ≠ d.bsm ∧ b ≠ d.br ∧ b ≠ d.ba ∧ d.bs ≠ d.bsm ∧ d.bs ≠ d.br ∧ d.bs ≠ d.ba ∧ d.bsm ≠ d.br ∧ d.bsm ≠ d.ba ∧ d.br ≠ d.ba ∧ (∀ p ∈ d.es, p.2.blk ≠ b ∧ p.2.blk ≠ d.bs ∧ p.2.blk ≠ d.bsm ∧ p.2.blk ≠ d.br ∧ p.2.blk ≠ d.ba) ∧ (d.es.map (·.2.blk)).Nodup := by
  unfold Dm.muts at h
  simp only [List.nodup_cons, List.mem_cons, not_or] at h
  obtain ⟨⟨a1, a2, a3, a4, a5⟩, ⟨b1, b2, b3, b4⟩, ⟨c1, c2, c3⟩, ⟨d1, d2⟩, e1, e2⟩ := h
  refine ⟨a1, a2, a3, a4, b1, b2, b3, c1, c2, d1, fun p hp => ?_, e2⟩
  have hm : p.2.blk ∈ d.es.map (·.2.blk) := List.mem_map.2 ⟨p, hp, rfl⟩
  exact ⟨fun e => a5 (e ▸ hm), fun e => b4 (e ▸ hm), fun e => c3 (e ▸ hm), fun e => d2 (e ▸ hm), fun e => e1 (e ▸ hm)⟩
/-- another list of the keys under way -/
theorem DmAt.setAct {w : World} {b : Nat} {d : Dm} {o : Obj} {L : List (QK × Int)} (h : DmAt w b d) (hm : MapAt Try.prog 43 Inp.qk (setBlock w d.ba o) d.ba (amap (Value.int .i64) L)) : DmAt (setBlock w d.ba o) b { d with act := L } := by
  obtain ⟨p1, p2, p3, p4, p5, p6, p7, p8, p9, p10, p11, _⟩ := Dm.parts h.nodup
  have hc : ChgP (fun g => g = d.ba) w (setBlock w d.ba o) := (ChgP.refl (fun g => g = d.ba) w).setBlock (Or.inl rfl) o
  have hba : d.ba ∈ d.muts b := by simp [Dm.muts]
  have himm : ∀ g ∈ d.imms, (setBlock w d.ba o).heap[g]? = w.heap[g]? := fun g hg => hc.block g (h.bound g hg) fun e => h.apart g hg (e ▸ hba)
  have blk : ∀ g, g < w.heap.size → g ≠ d.ba → (setBlock w d.ba o).heap[g]? = w.heap[g]? := fun g hg hn => hc.block g hg hn
  exact ⟨(blk _ (lt_of_obj h.blk) p4).trans h.blk, ⟨(blk _ (lt_of_obj h.store.blk) p7).trans h.store.blk, h.store.map.of_block (blk _ h.store.map.lt p9), fun p hp => ⟨intsKept' (h.store.vals p hp).1 fun g hg => himm g (Dm.imm_store (d := d) hp hg), (h.store.vals p hp).2⟩⟩, h.text, h.res.of_block (blk _ h.res.lt p10), hm, fun p hp => (h.each p hp).kept (blk _ (h.lt _ (Dm.mut_mem (b := b) hp)) (p11 p hp).2.2.2.2) fun g hg => himm g (Dm.imm_mem (d := d) hp hg), h.nodup, h.apart, fun g hg => Nat.lt_of_lt_of_le (h.bound g hg) hc.size⟩
theorem map_ups_same {es : List (QK × Rs)} {key : QK} {r r' : Rs} (h : aget es key = some r) (e : r'.blk = r.blk) : (ups es key r').map (·.2.blk) = es.map (·.2.blk) := by
  induction es with
  | nil => cases h
  | cons p l ih =>
    rw [aget_cons] at h
    unfold ups
    split at h
    · rename_i hp
      cases h
      rw [if_pos hp, List.map_cons, List.map_cons, e]
    · rename_i hp
      rw [if_neg hp, List.map_cons, List.map_cons, ih h]
theorem mem_ups_ne {es : List (QK × Rs)} {key : QK} {r' : Rs} (hn : (es.map (·.1)).Nodup) {p : QK × Rs} (h : p ∈ ups es key r') : p = (key, r') ∨ (p ∈ es ∧ p.1 ≠ key) := by
  induction es with
  | nil => left; simpa [ups] using h
  | cons q l ih =>
    rw [List.map_cons, List.nodup_cons] at hn
    unfold ups at h
    split at h
    · rename_i e
      rcases List.mem_cons.1 h with h | h
      · exact Or.inl h
      · exact Or.inr ⟨List.mem_cons_of_mem _ h, fun e' => hn.1 (List.mem_map.2 ⟨p, h, e'.trans e.symm⟩)⟩
    · rename_i e
      rcases List.mem_cons.1 h with h | h
      · exact Or.inr ⟨by simp [h], by rw [h]; exact e⟩
      · rcases ih hn.2 h with h | ⟨h, h'⟩
        · exact Or.inl h
        · exact Or.inr ⟨List.mem_cons_of_mem _ h, h'⟩
theorem DmAt.keys {w : World} {b : Nat} {d : Dm} (h : DmAt w b d) : (d.es.map (·.1)).Nodup := by
  have := h.res.nodup
  unfold amap at this
  rwa [List.map_map] at this
theorem blk_inj {es : List (QK × Rs)} (hb : (es.map (·.2.blk)).Nodup) {p q : QK × Rs} (hp : p ∈ es) (hq : q ∈ es) (e : p.2.blk = q.2.blk) : p = q := by
  induction es with
  | nil => cases hp
  | cons x l ih =>
    rw [List.map_cons, List.nodup_cons] at hb
    rcases List.mem_cons.1 hp with h1 | h1 <;> rcases List.mem_cons.1 hq with h2 | h2
    · rw [h1, h2]
    · exact absurd (List.mem_map.2 ⟨q, h2, by rw [← e, h1]⟩) hb.1
    · exact absurd (List.mem_map.2 ⟨p, h1, by rw [e, h2]⟩) hb.1
    · exact ih hb.2 h1 h2
/-- a result's numbers are set, the clock goes on -/
theorem DmAt.touch {w w' : World} {b : Nat} {d : Dm} {key : QK} {r r' : Rs} {n : Int} (h : DmAt w b d) (hr : aget d.es key = some r) (hc : ChgP (fun g => g = r.blk ∨ g = b) w w') (e1 : r'.blk = r.blk) (e2 : r'.imm = r.imm) (hr' : RsAt w' r')
    (hb : w'.heap[b]? = some (.cells #[d.comp, .pointer (some ⟨d.bs, 0, none⟩), .map (some d.br), .map (some d.ba), d.stop, .int .i64 d.cnt, .int .i64 n] 115 (0, 0))) : DmAt w' b { d with es := ups d.es key r', clk := n } := by
  obtain ⟨p1, p2, p3, p4, p5, p6, p7, p8, p9, p10, p11, p12⟩ := Dm.parts h.nodup
  have hm := aget_mem hr
  obtain ⟨q1, q2, q3, q4, q5⟩ := p11 _ hm
  simp only at q1 q2 q3 q4 q5
  have hrm : r.blk ∈ d.muts b := Dm.mut_mem hm
  have hbm : b ∈ d.muts b := by simp [Dm.muts]
  have himm : ∀ g ∈ d.imms, w'.heap[g]? = w.heap[g]? := fun g hg => hc.block g (h.bound g hg) fun e => e.elim (fun e => h.apart g hg (e ▸ hrm)) fun e => h.apart g hg (e ▸ hbm)
  have blk : ∀ g, g < w.heap.size → g ≠ r.blk → g ≠ b → w'.heap[g]? = w.heap[g]? := fun g hg hn hn' => hc.block g hg fun e => e.elim hn hn'
  have hmuts : ({ d with es := ups d.es key r', clk := n } : Dm).muts b = d.muts b := by
    unfold Dm.muts
    simp only
    rw [map_ups_same hr e1]
  have himms : ∀ g ∈ ({ d with es := ups d.es key r', clk := n } : Dm).imms, g ∈ d.imms := fun g hg => by
    rcases List.mem_append.1 hg with hg | hg
    · exact List.mem_append_left _ hg
    · rcases mem_ups_imms hg with hg | hg
      · rw [e2] at hg
        exact Dm.imm_mem hm hg
      · exact List.mem_append_right _ hg
  refine ⟨hb, ⟨(blk _ (lt_of_obj h.store.blk) (Ne.symm q2) (Ne.symm p1)).trans h.store.blk, h.store.map.of_block (blk _ h.store.map.lt (Ne.symm q3) (Ne.symm p2)), fun p hp => ⟨intsKept' (h.store.vals p hp).1 fun g hg => himm g (Dm.imm_store (d := d) hp hg), (h.store.vals p hp).2⟩⟩, h.text, ?_, h.act.of_block (blk _ h.act.lt (Ne.symm q5) (Ne.symm p4)), fun p hp => ?_, by rw [hmuts]; exact h.nodup, fun g hg => by rw [hmuts]; exact h.apart g (himms g hg), fun g hg => Nat.lt_of_lt_of_le (h.bound g (himms g hg)) hc.size⟩
  · have hv : amap Rs.val (ups d.es key r') = amap Rs.val d.es := by
      rw [← ups_amap]
      have : ∀ (es : List (QK × Rs)), aget es key = some r → ups (amap Rs.val es) key (Rs.val r') = amap Rs.val es := by
        intro es
        induction es with
        | nil => intro h; cases h
        | cons p l ih =>
          intro h
          rw [aget_cons] at h
          show ups ((p.1, p.2.val) :: amap Rs.val l) key _ = (p.1, p.2.val) :: amap Rs.val l
          unfold ups
          split at h
          · rename_i hp
            cases h
            rw [if_pos hp]
            simp only [Rs.val, e1, ← hp]
          · rename_i hp
            rw [if_neg hp, ih h]
      exact this _ hr
    show MapAt _ _ _ w' d.br (amap Rs.val (ups d.es key r'))
    rw [hv]
    exact h.res.of_block (blk _ h.res.lt (Ne.symm q4) (Ne.symm p3))
  · rcases mem_ups_ne h.keys hp with rfl | ⟨hp, hne⟩
    · exact hr'
    · have hb1 := (p11 p hp).1
      have hb2 : p.2.blk ≠ r.blk := fun e => hne (congrArg Prod.fst (blk_inj p12 hp hm e))
      exact (h.each p hp).kept (blk _ (h.lt _ (Dm.mut_mem (b := b) hp)) hb2 hb1) fun g hg => himm g (Dm.imm_mem (d := d) hp hg)
end Go.Proofs.Ytggiddhhbilcjaa
/- update. -/
namespace Go.Proofs.Ytggiddhhbilcjaa
open Go.RowKit Go.ChangeMaps Go.MapKept
set_option linter.unusedVariables false
set_option linter.unusedSimpArgs false
section
variable {w0 : World} {RO : Nat → Prop} {b : Nat} {comp stop : Value} {K : PS → QK → Prop} {Kk : QK → Prop} {U : PS → QK → Except Int Unit × PS} {C : QK → (GS → QK → Except Int (List Int) × GS) → GS → Except Int (List Int) × GS} {stp : PS → Bool}
def begP (s : PS) (k : QK) : PS := { s with act := ups s.act k 1 }
theorem updP_busy {s : PS} {k : QK} (h : s.busy k ≠ 0) : updP U C stp s k = (.error 8, s) := by unfold updP; rw [if_pos h]
theorem updP_none {s : PS} {k : QK} (h : s.busy k = 0) (e : aget s.es k = none) : updP U C stp s k = thenFin k (recompP U C stp (begP s k) k) := by
  unfold updP begP; rw [if_neg (by simpa using h)]; simp only [e]
theorem updP_yes {s s2 : PS} {k : QK} {r : RV} (h : s.busy k = 0) (e : aget s.es k = some r) (hv : validP U (begP s k) r = (.ok true, s2)) : updP U C stp s k = (.ok (), finP s2 k) := by
  unfold begP at hv; unfold updP; rw [if_neg (by simpa using h)]; simp only [e]; rw [hv]
theorem updP_no {s s2 : PS} {k : QK} {r : RV} (h : s.busy k = 0) (e : aget s.es k = some r) (hv : validP U (begP s k) r = (.ok false, s2)) : updP U C stp s k = thenFin k (recompP U C stp s2 k) := by
  unfold begP at hv; unfold updP; rw [if_neg (by simpa using h)]; simp only [e]; rw [hv]
theorem updP_err {s s2 : PS} {k : QK} {r : RV} {x : Int} (h : s.busy k = 0) (e : aget s.es k = some r) (hv : validP U (begP s k) r = (.error x, s2)) : updP U C stp s k = (.error x, s2) := by
  unfold begP at hv; unfold updP; rw [if_neg (by simpa using h)]; simp only [e]; rw [hv]
/-- update's end -/
theorem upd_end {key : QK} {w wx we : World} {d dx : Dm} {r : Rs} {o : Obj} (hn : NextK key b w wx d dx) (hact : aget d.act key = none) (hr : aget dx.es key = some r) (hf : updP U C stp d.pl key = (.ok (), finP dx.pl key))
    (hwe : ∀ g : Nat, we.heap[g]? = (((wx.setCell ⟨r.blk, 2, none⟩ (.int .i64 dx.S.rev)).setCell ⟨b, 6, none⟩ (.int .i64 (wrap64 (dx.clk + 1)))).setCell ⟨r.blk, 6, none⟩ (.int .i64 (wrap64 (dx.clk + 1)))).heap[g]?) (hch : Chg [] (((wx.setCell ⟨r.blk, 2, none⟩ (.int .i64 dx.S.rev)).setCell ⟨b, 6, none⟩ (.int .i64 (wrap64 (dx.clk + 1)))).setCell ⟨r.blk, 6, none⟩ (.int .i64 (wrap64 (dx.clk + 1)))) we)
    (hm : ∀ (h : MapAt Try.prog 43 Inp.qk we dx.ba (amap (Value.int .i64) dx.act)), MapAt Try.prog 43 Inp.qk (setBlock we dx.ba o) dx.ba (adel (amap (Value.int .i64) dx.act) key)) :
    UPost (updP U C stp) chI b key w d (.returned r.val) (setBlock we dx.ba o) := by
  obtain ⟨p1, p2, p3, p4, p5, p6, p7, p8, p9, p10, p11, p12⟩ := Dm.parts hn.mem.nodup
  have hrm := aget_mem hr
  have hrb : r.blk ≠ b := (p11 _ hrm).1
  have hrs := hn.mem.rs hr
  have hrmut : r.blk ∈ dx.muts b := Dm.mut_mem hrm
  have hc : ChgP (fun g => g = r.blk ∨ g = b) wx (((wx.setCell ⟨r.blk, 2, none⟩ (.int .i64 dx.S.rev)).setCell ⟨b, 6, none⟩ (.int .i64 (wrap64 (dx.clk + 1)))).setCell ⟨r.blk, 6, none⟩ (.int .i64 (wrap64 (dx.clk + 1)))) :=
    (((ChgP.refl (fun g => g = r.blk ∨ g = b) wx).setCell (p := ⟨r.blk, 2, none⟩) (Or.inl (Or.inl rfl)) _).setCell (p := ⟨b, 6, none⟩) (Or.inl (Or.inr rfl)) _).setCell (p := ⟨r.blk, 6, none⟩) (Or.inl (Or.inl rfl)) _
  have h1 : (((wx.setCell ⟨r.blk, 2, none⟩ (.int .i64 dx.S.rev)).setCell ⟨b, 6, none⟩ (.int .i64 (wrap64 (dx.clk + 1)))).setCell ⟨r.blk, 6, none⟩ (.int .i64 (wrap64 (dx.clk + 1)))).heap[r.blk]? = some (.cells #[.slice r.a r.xs.length r.cap, .string ⟨#[]⟩, .int .i64 dx.S.rev, .int .i64 r.chg, .int .i64 r.dur, .slice r.da r.deps.length r.dcap, .int .i64 (wrap64 (dx.clk + 1))] 153 (0, 0)) :=
    (heap_setCell_same ((heap_setCell_ne _ _ _ _ hrb).trans (heap_setCell_same hrs.blk _)) _).trans rfl
  have h2 : (((wx.setCell ⟨r.blk, 2, none⟩ (.int .i64 dx.S.rev)).setCell ⟨b, 6, none⟩ (.int .i64 (wrap64 (dx.clk + 1)))).setCell ⟨r.blk, 6, none⟩ (.int .i64 (wrap64 (dx.clk + 1)))).heap[b]? = some (.cells #[dx.comp, .pointer (some ⟨dx.bs, 0, none⟩), .map (some dx.br), .map (some dx.ba), dx.stop, .int .i64 dx.cnt, .int .i64 (wrap64 (dx.clk + 1))] 115 (0, 0)) :=
    (heap_setCell_ne _ _ _ _ (Ne.symm hrb)).trans ((heap_setCell_same ((heap_setCell_ne _ _ _ _ (Ne.symm hrb)).trans hn.mem.blk) _).trans rfl)
  have himm : ∀ g ∈ r.imm, ¬ (g = r.blk ∨ g = b) := fun g hg e => e.elim (fun e => hn.mem.apart g (Dm.imm_mem hrm hg) (e ▸ hrmut)) fun e => hn.mem.apart g (Dm.imm_mem hrm hg) (e ▸ by simp [Dm.muts])
  have hr' : RsAt _ { r with ver := dx.S.rev, use := wrap64 (dx.clk + 1) } := ⟨h1, intsKept' hrs.nums fun g hg => hc.block g (hn.mem.bound g (Dm.imm_mem hrm (List.mem_append_left _ hg))) (himm g (List.mem_append_left _ hg)), hrs.size, i3sKept' hrs.deps fun g hg => hc.block g (hn.mem.bound g (Dm.imm_mem hrm (List.mem_append_right _ hg))) (himm g (List.mem_append_right _ hg))⟩
  have ht := hn.mem.touch (r' := { r with ver := dx.S.rev, use := wrap64 (dx.clk + 1) }) hr hc rfl rfl hr' h2
  have hte := ht.new hch
  have hm' := hm hte.act
  rw [adel_amap] at hm'
  have hfin := hte.setAct hm'
  have hcb : ChgP (fun g => g = dx.ba) we (setBlock we dx.ba o) := (ChgP.refl (fun g => g = dx.ba) we).setBlock (Or.inl rfl) o
  have hx : NextK key b wx (setBlock we dx.ba o) dx { dx with es := ups dx.es key { r with ver := dx.S.rev, use := wrap64 (dx.clk + 1) }, clk := wrap64 (dx.clk + 1), act := adel dx.act key } := by
    refine ⟨hfin, ((hc.mono fun g hg => ?_).new hch).comp hcb fun g hg => Or.inl ?_, fun g hg => Or.inl ?_, fun g hg => Or.inl ?_, rfl, rfl, rfl, rfl, rfl, rfl, rfl, fun k v hne hk => ⟨?_, ?_⟩⟩
    · rcases hg with rfl | rfl
      · exact hrmut
      · simp [Dm.muts]
    · subst hg; simp [Dm.muts]
    · unfold Dm.muts at hg ⊢
      simp only [map_ups_same (r' := { r with ver := dx.S.rev, use := wrap64 (dx.clk + 1) }) hr rfl] at hg
      exact hg
    · rcases List.mem_append.1 hg with hg | hg
      · exact List.mem_append_left _ hg
      · rcases mem_ups_imms hg with hg | hg
        · exact Dm.imm_mem hrm hg
        · exact List.mem_append_right _ hg
    · show aget (adel dx.act key) k = some v
      rw [aget_adel, if_neg (Ne.symm hne)]
      exact hk
    · show aget (ups dx.es key _) k = _
      rw [aget_ups, if_neg (Ne.symm hne)]
  refine UPost.mkOk (u := ()) (d' := { dx with es := ups dx.es key { r with ver := dx.S.rev, use := wrap64 (dx.clk + 1) }, clk := wrap64 (dx.clk + 1), act := adel dx.act key }) (r := { r with ver := dx.S.rev, use := wrap64 (dx.clk + 1) }) ?_ ((hn.trans hx).toNext hact) ?_ rfl
  · rw [hf]
    unfold finP
    rw [Dm.res_pl hr]
    unfold Dm.pl
    simp only
    rw [← ups_amap]
    rfl
  · show aget (ups dx.es key _) key = _
    rw [aget_ups, if_pos rfl]
theorem int_zero (w : World) : (zeroValue 3).run Try.prog w = .ok (.int .i64 0) w := by kernel_rfl
set_option maxRecDepth 100000 in
set_option maxHeartbeats 8000000 in
theorem update_anyB (fam : UFam w0 RO b comp stop K U chI) (key : QK) (hkey : Inp.QKok key)
    (w : World) (d : Dm) (h : Env w0 RO b w d) (hc : d.comp = comp) (hs : d.stop = stop) (hact : d.pl.busy key = 0 → aget d.act key = none)
    (hre : d.pl.busy key = 0 → ∀ w d v, Env w0 RO b w d → d.comp = comp → d.stop = stop → aget d.act key = some v → (∀ k, Kk k → Inp.QKok k ∧ (k.1 ≠ 0 → K d.pl k)) → Calls Try.prog 93 #[.pointer (some ⟨b, 0, none⟩), i3v key] w (RPost (recompP U C stp) chI b key w d))
    (hks1 : d.pl.busy key = 0 → ∀ k, Kk k → Inp.QKok k ∧ (k.1 ≠ 0 → K (begP d.pl key) k)) (hdeps : ∀ r, aget d.es key = some r → (0 ≤ r.dur ∧ r.dur < 3) ∧ ∀ k ∈ r.deps, Inp.QKok k ∧ (k.1 ≠ 0 → K (begP d.pl key) k))
    (hks2 : ∀ r s2, aget d.es key = some r → validP U (begP d.pl key) r.pl = (.ok false, s2) → ∀ k, Kk k → Inp.QKok k ∧ (k.1 ≠ 0 → K s2 k)) :
    Calls Try.prog 77 #[.pointer (some ⟨b, 0, none⟩), i3v key] w (UPost (updP U C stp) chI b key w d) := by
  obtain ⟨k1, k2, k3⟩ := key
  obtain ⟨wa, hwa⟩ : ∃ x, x = w.alloc (.cells #[.int .i64 k1, .int .i64 k2, .int .i64 k3] 43) := ⟨_, rfl⟩
  have hca : Chg [] w wa := by rw [hwa]; exact (Chg.refl [] w).alloc _
  have hkb : wa.heap[w.heap.size]? = some (.cells #[.int .i64 k1, .int .i64 k2, .int .i64 k3] 43 (0, 0)) := by rw [hwa]; exact heap_at _ _ _ rfl
  have Ha := Lib.hid (h.new hca)
  have Hkn := Lib.hid (show w.heap.size ∉ d.muts b from fun hm => by have := h.mem.lt _ hm; omega)
  have H := Lib.hid h
  have Hc := Lib.hid hc
  have Hs := Lib.hid hs
  have Hact := Lib.hid hact
  have Hks1 := Lib.hid hks1
  have Hdeps := Lib.hid hdeps
  have Hks2 := Lib.hid hks2
  have Hre := Lib.hid hre
  have Hkey := Lib.hid hkey
  have Hca := Lib.hid hca
  have Hkb := Lib.hid hkb
  have q3 : wa.cell? ⟨b, 3, none⟩ = some (.map (some d.ba)) := cell_of_heap Ha.out.mem.blk rfl
  have e0 : wa.cell? ⟨w.heap.size, 0, none⟩ = some (.int .i64 k1) := cell_of_heap hkb rfl
  have e1 : wa.cell? ⟨w.heap.size, 1, none⟩ = some (.int .i64 k2) := cell_of_heap hkb rfl
  have e2 : wa.cell? ⟨w.heap.size, 2, none⟩ = some (.int .i64 k3) := cell_of_heap hkb rfl
  clear h hc hs hact hks1 hdeps hks2 hre hkey hca hkb
  unfold i3v
  go_enter Try.func77, Try.ntmps77
  go_wp2_with fail
  rw [← hwa]
  clear hwa
  refine wp_region_readsQ 6 (by kernel_rfl) (by kernel_rfl) ?_
  intro wd hwd
  simp only [List.take_succ_cons, List.take_zero, List.drop_succ_cons, List.drop_zero]
  have hcd : Chg [] wa wd := by rw [hwd]; exact (Chg.refl _ _).drew
  have q3d := (hcd.cell (lt_of_cell q3) (by simp)).trans q3
  have e0d := (hcd.cell (lt_of_cell e0) (by simp)).trans e0
  have e1d := (hcd.cell (lt_of_cell e1) (by simp)).trans e1
  have e2d := (hcd.cell (lt_of_cell e2) (by simp)).trans e2
  have hlk := (Ha.out.new hcd).mem.act.lookup Inp.qkeyed Inp.qk_inj Try.underlying113 (Inp.qkOk Hkey.out) (int_zero wd) false
  rw [aget_amap] at hlk
  unfold Inp.qk at hlk
  have hbz : ((aget d.act (k1, k2, k3)).map (Value.int .i64)).getD (.int .i64 0) = .int .i64 (d.pl.busy (k1, k2, k3)) := by
    unfold PS.busy
    show _ = Value.int .i64 ((aget d.act (k1, k2, k3)).getD 0)
    cases aget d.act (k1, k2, k3) <;> rfl
  simp only [hbz, Bool.false_eq_true, if_false] at hlk
  clear hbz
  have Hd := Lib.hid (Ha.out.new hcd)
  have Hkd := Lib.hid ((hcd.block _ (lt_of_obj Hkb.out) (by simp)).trans Hkb.out)
  have Hcd := Lib.hid (Hca.out.trans hcd)
  clear hwd hcd q3 e0 e1 e2
  by_cases hbusy : d.pl.busy (k1, k2, k3) = 0
  · have bz : (d.pl.busy (k1, k2, k3) != 0) = false := by simpa using hbusy
    have Hbusy := Lib.hid hbusy
    clear hbusy
    repeat go_big_quiet_step (fail)
    refine wpQuiet_nil ?_
    go_wp2_with fail
    clear hlk bz
    refine wp_region_readsQ 5 (by kernel_rfl) (by kernel_rfl) ?_
    intro we hwe
    simp only [List.take_succ_cons, List.take_zero, List.drop_succ_cons, List.drop_zero]
    have hcd : Chg [] wd we := by rw [hwe]; exact (Chg.refl _ _).drew
    have q3e := (hcd.cell (lt_of_cell q3d) (by simp)).trans q3d
    have e0e := (hcd.cell (lt_of_cell e0d) (by simp)).trans e0d
    have e1e := (hcd.cell (lt_of_cell e1d) (by simp)).trans e1d
    have e2e := (hcd.cell (lt_of_cell e2d) (by simp)).trans e2d
    obtain ⟨o, hupd, hmap⟩ := (Hd.out.new hcd).mem.act.update Inp.qkeyed Inp.qk_inj Try.underlying113 (Inp.qkOk Hkey.out) (.int .i64 1)
    have hm1 := (Hd.out.new hcd).mem.setAct (L := ups d.act (k1, k2, k3) 1) (by rw [← ups_amap]; exact hmap)
    have hcb : ChgP (fun g => g = d.ba) we (setBlock we d.ba o) := (ChgP.refl (fun g => g = d.ba) we).setBlock (Or.inl rfl) o
    have hbam : d.ba ∈ d.muts b := by simp [Dm.muts]
    have hn1 : NextK (k1, k2, k3) b w (setBlock we d.ba o) d { d with act := ups d.act (k1, k2, k3) 1 } :=
      ⟨hm1, ((Hcd.out.trans hcd).p (S := fun g => g ∈ d.muts b)).comp hcb (fun g hg => Or.inl (hg ▸ hbam)), fun g hg => Or.inl hg, fun g hg => Or.inl hg, rfl, rfl, rfl, rfl, rfl, rfl, rfl, fun k v hne hk => ⟨by show aget (ups d.act _ _) k = _; rw [aget_ups, if_neg (Ne.symm hne)]; exact hk, rfl⟩⟩
    have hk1 := (hcb.block _ (Nat.lt_of_lt_of_le (lt_of_obj Hkd.out) hcd.size) (fun e => Hkn.out (e ▸ hbam))).trans ((hcd.block _ (lt_of_obj Hkd.out) (by simp)).trans Hkd.out)
    have Hn1 := Lib.hid hn1
    have Hk1 := Lib.hid hk1
    unfold Inp.qk at hupd
    clear hwe hcd hmap hm1 hcb hbam hn1 hk1 q3d e0d e1d e2d
    repeat go_big_quiet_step (fail)
    refine wpQuiet_nil ?_
    go_wp2_with fail
    obtain ⟨w1, hw1⟩ : ∃ x, x = setBlock we d.ba o := ⟨_, rfl⟩
    rw [← hw1] at Hn1 Hk1 ⊢
    clear hw1 hupd q3e e0e e1e e2e
    have q2 : w1.cell? ⟨b, 2, none⟩ = some (.map (some d.br)) := cell_of_heap Hn1.out.mem.blk rfl
    have e0 : w1.cell? ⟨w.heap.size, 0, none⟩ = some (.int .i64 k1) := cell_of_heap Hk1.out rfl
    have e1 : w1.cell? ⟨w.heap.size, 1, none⟩ = some (.int .i64 k2) := cell_of_heap Hk1.out rfl
    have e2 : w1.cell? ⟨w.heap.size, 2, none⟩ = some (.int .i64 k3) := cell_of_heap Hk1.out rfl
    refine wp_region_readsQ 6 (by kernel_rfl) (by kernel_rfl) ?_
    intro w2 hw2
    simp only [List.take_succ_cons, List.take_zero, List.drop_succ_cons, List.drop_zero]
    have hcd : Chg [] w1 w2 := by rw [hw2]; exact (Chg.refl _ _).drew
    have q2d := (hcd.cell (lt_of_cell q2) (by simp)).trans q2
    have e0d := (hcd.cell (lt_of_cell e0) (by simp)).trans e0
    have e1d := (hcd.cell (lt_of_cell e1) (by simp)).trans e1
    have e2d := (hcd.cell (lt_of_cell e2) (by simp)).trans e2
    have hn2 : NextK (k1, k2, k3) b w w2 d { d with act := ups d.act (k1, k2, k3) 1 } := Hn1.out.trans ((Next.new Hn1.out.mem hcd).toK _)
    have hlk := hn2.mem.res.lookup Inp.qkeyed Inp.qk_inj Try.underlying112 (Inp.qkOk Hkey.out) (ptr_zero w2) false
    rw [aget_amap] at hlk
    simp only [Bool.false_eq_true, if_false] at hlk
    unfold Inp.qk at hlk
    have Hn2 := Lib.hid hn2
    have Hk2 := Lib.hid ((hcd.block _ (lt_of_obj Hk1.out) (by simp)).trans Hk1.out)
    clear hw2 hcd q2 e0 e1 e2 hn2
    have He2 := Lib.hid (H.out.nextK Hn2.out)
    have Hb1 := Lib.hid (show aget (ups d.act (k1, k2, k3) 1) (k1, k2, k3) = some 1 by rw [aget_ups, if_pos rfl])
    cases hold : aget d.es (k1, k2, k3) with
    | none =>
      rw [hold] at hlk
      simp only [Option.map_none, Option.getD_none] at hlk
      have Hf0 := Lib.hid (updP_none (U := U) (C := C) (stp := stp) Hbusy.out (show aget d.pl.es (k1, k2, k3) = none by rw [Dm.aget_pl, hold]; rfl))
      clear hold
      have Hcall := Lib.hid (Hre.out Hbusy.out w2 _ 1 He2.out Hc.out Hs.out Hb1.out (Hks1.out Hbusy.out))
      unfold i3v at Hcall
      repeat go_big_quiet_step (fail)
      refine wpQuiet_nil ?_
      go_wp2_with fail
      refine Hcall.out.mono ?_
      rintro e wx hp
      rcases hu : recompP U C stp (begP d.pl (k1, k2, k3)) (k1, k2, k3) with ⟨x | y, sx⟩
      · obtain ⟨dx, rfl, hn, rfl⟩ := hp.err hu
        have Hf := Lib.hid (Hf0.out.trans (by rw [hu]; rfl) : updP U C stp d.pl (k1, k2, k3) = (.error x, dx.pl))
        have Hn := Lib.hid ((Hn2.out.trans hn.toK).toNext (Hact.out Hbusy.out))
        clear hu hp hn hlk q2d e0d e1d e2d
        go_wp2
        exact ⟨rfl, UPost.mkErr (U := updP U C stp) Hf.out Hn.out rfl⟩
      · obtain ⟨dx, r, rfl, hn, rfl, hr⟩ := hp.ok hu
        have Hf := Lib.hid (Hf0.out.trans (by rw [hu]; rfl) : updP U C stp d.pl (k1, k2, k3) = (.ok (), finP dx.pl (k1, k2, k3)))
        have Hn := Lib.hid (Hn2.out.trans hn.toK)
        have Hr := Lib.hid hr
        have Hkx := Lib.hid (And.intro ((hn.chg.block _ (lt_of_obj Hk2.out) Hkn.out).trans Hk2.out) (show w.heap.size ∉ dx.muts b from fun hm => (hn.muts _ hm).elim Hkn.out fun hs => by have := lt_of_obj Hk2.out; omega))
        clear hu hp hn hr hlk q2d e0d e1d e2d
        unfold Rs.val
        have hrs := Hn.out.mem.rs Hr.out
        have q1 : wx.cell? ⟨b, 1, none⟩ = some (.pointer (some ⟨dx.bs, 0, none⟩)) := cell_of_heap Hn.out.mem.blk rfl
        have q6 : wx.cell? ⟨b, 6, none⟩ = some (.int .i64 dx.clk) := cell_of_heap Hn.out.mem.blk rfl
        have f6 := frozen_of_heap Hn.out.mem.blk (i := 6)
        have r2 : wx.cell? ⟨r.blk, 2, none⟩ = some (.int .i64 r.ver) := cell_of_heap hrs.blk rfl
        have fr2 := frozen_of_heap hrs.blk (i := 2)
        have r6 : wx.cell? ⟨r.blk, 6, none⟩ = some (.int .i64 r.use) := cell_of_heap hrs.blk rfl
        have fr6 := frozen_of_heap hrs.blk (i := 6)
        have hne : r.blk ≠ b := ((Dm.parts Hn.out.mem.nodup).2.2.2.2.2.2.2.2.2.2.1 _ (aget_mem Hr.out)).1
        have hne' : b ≠ r.blk := Ne.symm hne
        clear hrs
        go_wp2_with fail
        refine (revision_q _ _ _ _ Hn.out.mem.store).mono ?_
        rintro e wy ⟨rfl, rfl⟩
        go_wp2_with fail
        have hcx : ChgP (fun g => g = r.blk ∨ g = b) wy (((wy.setCell ⟨r.blk, 2, none⟩ (.int .i64 dx.S.rev)).setCell ⟨b, 6, none⟩ (.int .i64 (wrap64 (dx.clk + 1)))).setCell ⟨r.blk, 6, none⟩ (.int .i64 (wrap64 (dx.clk + 1)))) :=
          (((ChgP.refl (fun g => g = r.blk ∨ g = b) wy).setCell (p := ⟨r.blk, 2, none⟩) (Or.inl (Or.inl rfl)) _).setCell (p := ⟨b, 6, none⟩) (Or.inl (Or.inr rfl)) _).setCell (p := ⟨r.blk, 6, none⟩) (Or.inl (Or.inl rfl)) _
        obtain ⟨wz, hwz⟩ : ∃ x, x = (((wy.setCell ⟨r.blk, 2, none⟩ (.int .i64 dx.S.rev)).setCell ⟨b, 6, none⟩ (.int .i64 (wrap64 (dx.clk + 1)))).setCell ⟨r.blk, 6, none⟩ (.int .i64 (wrap64 (dx.clk + 1)))) := ⟨_, rfl⟩
        rw [← hwz] at hcx ⊢
        have hbm : b ∈ dx.muts b := by simp [Dm.muts]
        have hkn : w.heap.size ∉ dx.muts b := Hkx.out.2
        have hzb : wz.heap[b]? = some (.cells #[dx.comp, .pointer (some ⟨dx.bs, 0, none⟩), .map (some dx.br), .map (some dx.ba), dx.stop, .int .i64 dx.cnt, .int .i64 (wrap64 (dx.clk + 1))] 115 (0, 0)) := by
          rw [hwz]
          exact (heap_setCell_ne _ _ _ _ hne').trans ((heap_setCell_same ((heap_setCell_ne _ _ _ _ hne').trans Hn.out.mem.blk) _).trans rfl)
        have hzk := (hcx.block _ (lt_of_obj Hkx.out.1) (fun e => e.elim (fun e => hkn (e ▸ Dm.mut_mem (aget_mem Hr.out))) fun e => hkn (e ▸ hbm))).trans Hkx.out.1
        have z3 : wz.cell? ⟨b, 3, none⟩ = some (.map (some dx.ba)) := cell_of_heap hzb rfl
        have y0 : wz.cell? ⟨w.heap.size, 0, none⟩ = some (.int .i64 k1) := cell_of_heap hzk rfl
        have y1 : wz.cell? ⟨w.heap.size, 1, none⟩ = some (.int .i64 k2) := cell_of_heap hzk rfl
        have y2 : wz.cell? ⟨w.heap.size, 2, none⟩ = some (.int .i64 k3) := cell_of_heap hzk rfl
        have hbr : dx.ba ≠ r.blk := Ne.symm ((Dm.parts Hn.out.mem.nodup).2.2.2.2.2.2.2.2.2.2.1 _ (aget_mem Hr.out)).2.2.2.2
        have hbb : dx.ba ≠ b := Ne.symm (Dm.parts Hn.out.mem.nodup).2.2.2.1
        have Hma := Lib.hid (Hn.out.mem.act.of_block (hcx.block _ Hn.out.mem.act.lt (fun e => e.elim hbr hbb)))
        have Hwz := Lib.hid hwz
        clear hwz hcx hbm hzb hzk hkn hbr hbb q1 q6 f6 r2 fr2 r6 fr6 hne hne'
        refine wp_region_readsQ 5 (by kernel_rfl) (by kernel_rfl) ?_
        intro we hwe
        simp only [List.take_succ_cons, List.take_zero, List.drop_succ_cons, List.drop_zero]
        have hcd : Chg [] wz we := by rw [hwe]; exact (Chg.refl _ _).drew
        have z3d := (hcd.cell (lt_of_cell z3) (by simp)).trans z3
        have y0d := (hcd.cell (lt_of_cell y0) (by simp)).trans y0
        have y1d := (hcd.cell (lt_of_cell y1) (by simp)).trans y1
        have y2d := (hcd.cell (lt_of_cell y2) (by simp)).trans y2
        obtain ⟨o, hdel, hmap⟩ := (Hma.out.kept hcd (by simp)).delete Inp.qkeyed Inp.qk_inj Try.underlying113 (Inp.qkOk Hkey.out) 0
        unfold Inp.qk at hdel
        have Hwe := Lib.hid (show ∀ g : Nat, we.heap[g]? = wz.heap[g]? from fun g => by rw [hwe]; rfl)
        have Hcd := Lib.hid hcd
        have Hmap := Lib.hid hmap
        clear hwe hcd z3 y0 y1 y2 hmap
        repeat go_big_quiet_step (fail)
        refine wpQuiet_nil ?_
        go_wp2_with fail
        go_ret
        have hcd' := Hcd.out
        have hwe' := Hwe.out
        rw [Hwz.out] at hcd' hwe'
        exact upd_end Hn.out (Hact.out Hbusy.out) Hr.out Hf.out hwe' hcd' (fun _ => Hmap.out)
    | some ro =>
      rw [hold] at hlk
      simp only [Option.map_some, Option.getD_some] at hlk
      unfold Rs.val at hlk
      have Hold := Lib.hid hold
      have hpo : aget d.pl.es (k1, k2, k3) = some ro.pl := by rw [Dm.aget_pl, hold]; rfl
      have Hpo := Lib.hid hpo
      have Hval := Lib.hid (valid_any fam w2 _ (k1, k2, k3) 1 ro He2.out Hc.out Hs.out Hold.out Hb1.out (Hdeps.out ro hold).1 (Hdeps.out ro hold).2)
      clear hold hpo
      repeat go_big_quiet_step (fail)
      refine wpQuiet_nil ?_
      unfold Rs.val at Hval
      clear hlk q2d e0d e1d e2d
      go_wp2_with fail
      refine Hval.out.mono ?_
      rintro e w3 hp
      rcases hu : validP U (begP d.pl (k1, k2, k3)) ro.pl with ⟨x | t, s3⟩
      · obtain ⟨d3, rfl, hn, rfl⟩ := hp.err hu
        have Hf := Lib.hid (updP_err (U := U) (C := C) (stp := stp) Hbusy.out Hpo.out hu)
        have Hn := Lib.hid ((Hn2.out.trans (hn.toK _)).toNext (Hact.out Hbusy.out))
        clear hu hp hn
        go_wp2
        exact ⟨rfl, UPost.mkErr (U := updP U C stp) Hf.out Hn.out rfl⟩
      · obtain ⟨d3, rfl, hn, rfl⟩ := hp.ok hu
        have Hn3 := Lib.hid (Hn2.out.trans (hn.toK (k1, k2, k3)))
        have Hk3 := Lib.hid (And.intro ((hn.other (lt_of_obj Hk2.out) Hkn.out).1.trans Hk2.out) (hn.other (lt_of_obj Hk2.out) Hkn.out).2.1)
        have Hby := Lib.hid (hn.busy (k1, k2, k3) 1 Hb1.out)
        cases t
        · have Hf0 := Lib.hid (updP_no (U := U) (C := C) (stp := stp) Hbusy.out Hpo.out hu)
          have Hks3 := Lib.hid (Hks2.out ro _ Hold.out hu)
          clear hu hp hn
          have hcall := Hre.out Hbusy.out w3 d3 1 (H.out.nextK Hn3.out) (Hn3.out.comp.trans Hc.out) (Hn3.out.stop.trans Hs.out) Hby.out.1 Hks3.out
          have Hcall := Lib.hid hcall
          clear hcall
          unfold i3v at Hcall
          have e0 : w3.cell? ⟨w.heap.size, 0, none⟩ = some (.int .i64 k1) := cell_of_heap Hk3.out.1 rfl
          have e1 : w3.cell? ⟨w.heap.size, 1, none⟩ = some (.int .i64 k2) := cell_of_heap Hk3.out.1 rfl
          have e2 : w3.cell? ⟨w.heap.size, 2, none⟩ = some (.int .i64 k3) := cell_of_heap Hk3.out.1 rfl
          go_wp2_with fail
          refine Hcall.out.mono ?_
          rintro e wx hp
          rcases hu : recompP U C stp d3.pl (k1, k2, k3) with ⟨x | y, sx⟩
          · obtain ⟨dx, rfl, hn, rfl⟩ := hp.err hu
            have Hf := Lib.hid (Hf0.out.trans (by rw [hu]; rfl) : updP U C stp d.pl (k1, k2, k3) = (.error x, dx.pl))
            have Hn := Lib.hid ((Hn3.out.trans hn.toK).toNext (Hact.out Hbusy.out))
            clear hu hp hn e0 e1 e2
            go_wp2
            exact ⟨rfl, UPost.mkErr (U := updP U C stp) Hf.out Hn.out rfl⟩
          · obtain ⟨dx, r, rfl, hn, rfl, hr⟩ := hp.ok hu
            have Hf := Lib.hid (Hf0.out.trans (by rw [hu]; rfl) : updP U C stp d.pl (k1, k2, k3) = (.ok (), finP dx.pl (k1, k2, k3)))
            have Hn := Lib.hid (Hn3.out.trans hn.toK)
            have Hr := Lib.hid hr
            have Hkx := Lib.hid (And.intro ((hn.chg.block _ (lt_of_obj Hk3.out.1) Hk3.out.2).trans Hk3.out.1) (show w.heap.size ∉ dx.muts b from fun hm => (hn.muts _ hm).elim Hk3.out.2 fun hs => by have := lt_of_obj Hk3.out.1; omega))
            clear hu hp hn hr e0 e1 e2
            unfold Rs.val
            have hrs := Hn.out.mem.rs Hr.out
            have q1 : wx.cell? ⟨b, 1, none⟩ = some (.pointer (some ⟨dx.bs, 0, none⟩)) := cell_of_heap Hn.out.mem.blk rfl
            have q6 : wx.cell? ⟨b, 6, none⟩ = some (.int .i64 dx.clk) := cell_of_heap Hn.out.mem.blk rfl
            have f6 := frozen_of_heap Hn.out.mem.blk (i := 6)
            have r2 : wx.cell? ⟨r.blk, 2, none⟩ = some (.int .i64 r.ver) := cell_of_heap hrs.blk rfl
            have fr2 := frozen_of_heap hrs.blk (i := 2)
            have r6 : wx.cell? ⟨r.blk, 6, none⟩ = some (.int .i64 r.use) := cell_of_heap hrs.blk rfl
            have fr6 := frozen_of_heap hrs.blk (i := 6)
            have hne : r.blk ≠ b := ((Dm.parts Hn.out.mem.nodup).2.2.2.2.2.2.2.2.2.2.1 _ (aget_mem Hr.out)).1
            have hne' : b ≠ r.blk := Ne.symm hne
            clear hrs
            go_wp2_with fail
            refine (revision_q _ _ _ _ Hn.out.mem.store).mono ?_
            rintro e wy ⟨rfl, rfl⟩
            go_wp2_with fail
            have hcx : ChgP (fun g => g = r.blk ∨ g = b) wy (((wy.setCell ⟨r.blk, 2, none⟩ (.int .i64 dx.S.rev)).setCell ⟨b, 6, none⟩ (.int .i64 (wrap64 (dx.clk + 1)))).setCell ⟨r.blk, 6, none⟩ (.int .i64 (wrap64 (dx.clk + 1)))) :=
              (((ChgP.refl (fun g => g = r.blk ∨ g = b) wy).setCell (p := ⟨r.blk, 2, none⟩) (Or.inl (Or.inl rfl)) _).setCell (p := ⟨b, 6, none⟩) (Or.inl (Or.inr rfl)) _).setCell (p := ⟨r.blk, 6, none⟩) (Or.inl (Or.inl rfl)) _
            obtain ⟨wz, hwz⟩ : ∃ x, x = (((wy.setCell ⟨r.blk, 2, none⟩ (.int .i64 dx.S.rev)).setCell ⟨b, 6, none⟩ (.int .i64 (wrap64 (dx.clk + 1)))).setCell ⟨r.blk, 6, none⟩ (.int .i64 (wrap64 (dx.clk + 1)))) := ⟨_, rfl⟩
            rw [← hwz] at hcx ⊢
            have hbm : b ∈ dx.muts b := by simp [Dm.muts]
            have hkn : w.heap.size ∉ dx.muts b := Hkx.out.2
            have hzb : wz.heap[b]? = some (.cells #[dx.comp, .pointer (some ⟨dx.bs, 0, none⟩), .map (some dx.br), .map (some dx.ba), dx.stop, .int .i64 dx.cnt, .int .i64 (wrap64 (dx.clk + 1))] 115 (0, 0)) := by
              rw [hwz]
              exact (heap_setCell_ne _ _ _ _ hne').trans ((heap_setCell_same ((heap_setCell_ne _ _ _ _ hne').trans Hn.out.mem.blk) _).trans rfl)
            have hzk := (hcx.block _ (lt_of_obj Hkx.out.1) (fun e => e.elim (fun e => hkn (e ▸ Dm.mut_mem (aget_mem Hr.out))) fun e => hkn (e ▸ hbm))).trans Hkx.out.1
            have z3 : wz.cell? ⟨b, 3, none⟩ = some (.map (some dx.ba)) := cell_of_heap hzb rfl
            have y0 : wz.cell? ⟨w.heap.size, 0, none⟩ = some (.int .i64 k1) := cell_of_heap hzk rfl
            have y1 : wz.cell? ⟨w.heap.size, 1, none⟩ = some (.int .i64 k2) := cell_of_heap hzk rfl
            have y2 : wz.cell? ⟨w.heap.size, 2, none⟩ = some (.int .i64 k3) := cell_of_heap hzk rfl
            have hbr : dx.ba ≠ r.blk := Ne.symm ((Dm.parts Hn.out.mem.nodup).2.2.2.2.2.2.2.2.2.2.1 _ (aget_mem Hr.out)).2.2.2.2
            have hbb : dx.ba ≠ b := Ne.symm (Dm.parts Hn.out.mem.nodup).2.2.2.1
            have Hma := Lib.hid (Hn.out.mem.act.of_block (hcx.block _ Hn.out.mem.act.lt (fun e => e.elim hbr hbb)))
            have Hwz := Lib.hid hwz
            clear hwz hcx hbm hzb hzk hkn hbr hbb q1 q6 f6 r2 fr2 r6 fr6 hne hne'
            refine wp_region_readsQ 5 (by kernel_rfl) (by kernel_rfl) ?_
            intro we hwe
            simp only [List.take_succ_cons, List.take_zero, List.drop_succ_cons, List.drop_zero]
            have hcd : Chg [] wz we := by rw [hwe]; exact (Chg.refl _ _).drew
            have z3d := (hcd.cell (lt_of_cell z3) (by simp)).trans z3
            have y0d := (hcd.cell (lt_of_cell y0) (by simp)).trans y0
            have y1d := (hcd.cell (lt_of_cell y1) (by simp)).trans y1
            have y2d := (hcd.cell (lt_of_cell y2) (by simp)).trans y2
            obtain ⟨o, hdel, hmap⟩ := (Hma.out.kept hcd (by simp)).delete Inp.qkeyed Inp.qk_inj Try.underlying113 (Inp.qkOk Hkey.out) 0
            unfold Inp.qk at hdel
            have Hwe := Lib.hid (show ∀ g : Nat, we.heap[g]? = wz.heap[g]? from fun g => by rw [hwe]; rfl)
            have Hcd := Lib.hid hcd
            have Hmap := Lib.hid hmap
            clear hwe hcd z3 y0 y1 y2 hmap
            repeat go_big_quiet_step (fail)
            refine wpQuiet_nil ?_
            go_wp2_with fail
            go_ret
            have hcd' := Hcd.out
            have hwe' := Hwe.out
            rw [Hwz.out] at hcd' hwe'
            exact upd_end Hn.out (Hact.out Hbusy.out) Hr.out Hf.out hwe' hcd' (fun _ => Hmap.out)
        · obtain ⟨dx, hdx⟩ : ∃ x, x = d3 := ⟨_, rfl⟩
          obtain ⟨wx, hwx⟩ : ∃ x, x = w3 := ⟨_, rfl⟩
          obtain ⟨r, hro⟩ : ∃ x, x = ro := ⟨_, rfl⟩
          rw [← hdx] at hu Hn3 Hk3 Hby
          rw [← hwx] at Hn3 Hk3 ⊢
          rw [← hro] at Hold
          have Hf := Lib.hid (updP_yes (U := U) (C := C) (stp := stp) Hbusy.out Hpo.out hu)
          rw [← hro]
          have Hn := Lib.hid Hn3.out
          have Hr := Lib.hid (Hby.out.2.trans Hold.out)
          have Hkx := Lib.hid Hk3.out
          clear hu hp hn hro hwx hdx
          have hrs := Hn.out.mem.rs Hr.out
          have q1 : wx.cell? ⟨b, 1, none⟩ = some (.pointer (some ⟨dx.bs, 0, none⟩)) := cell_of_heap Hn.out.mem.blk rfl
          have q6 : wx.cell? ⟨b, 6, none⟩ = some (.int .i64 dx.clk) := cell_of_heap Hn.out.mem.blk rfl
          have f6 := frozen_of_heap Hn.out.mem.blk (i := 6)
          have r2 : wx.cell? ⟨r.blk, 2, none⟩ = some (.int .i64 r.ver) := cell_of_heap hrs.blk rfl
          have fr2 := frozen_of_heap hrs.blk (i := 2)
          have r6 : wx.cell? ⟨r.blk, 6, none⟩ = some (.int .i64 r.use) := cell_of_heap hrs.blk rfl
          have fr6 := frozen_of_heap hrs.blk (i := 6)
          have hne : r.blk ≠ b := ((Dm.parts Hn.out.mem.nodup).2.2.2.2.2.2.2.2.2.2.1 _ (aget_mem Hr.out)).1
          have hne' : b ≠ r.blk := Ne.symm hne
          clear hrs
          go_wp2_with fail
          refine (revision_q _ _ _ _ Hn.out.mem.store).mono ?_
          rintro e wy ⟨rfl, rfl⟩
          go_wp2_with fail
          have hcx : ChgP (fun g => g = r.blk ∨ g = b) wy (((wy.setCell ⟨r.blk, 2, none⟩ (.int .i64 dx.S.rev)).setCell ⟨b, 6, none⟩ (.int .i64 (wrap64 (dx.clk + 1)))).setCell ⟨r.blk, 6, none⟩ (.int .i64 (wrap64 (dx.clk + 1)))) :=
            (((ChgP.refl (fun g => g = r.blk ∨ g = b) wy).setCell (p := ⟨r.blk, 2, none⟩) (Or.inl (Or.inl rfl)) _).setCell (p := ⟨b, 6, none⟩) (Or.inl (Or.inr rfl)) _).setCell (p := ⟨r.blk, 6, none⟩) (Or.inl (Or.inl rfl)) _
          obtain ⟨wz, hwz⟩ : ∃ x, x = (((wy.setCell ⟨r.blk, 2, none⟩ (.int .i64 dx.S.rev)).setCell ⟨b, 6, none⟩ (.int .i64 (wrap64 (dx.clk + 1)))).setCell ⟨r.blk, 6, none⟩ (.int .i64 (wrap64 (dx.clk + 1)))) := ⟨_, rfl⟩
          rw [← hwz] at hcx ⊢
          have hbm : b ∈ dx.muts b := by simp [Dm.muts]
          have hkn : w.heap.size ∉ dx.muts b := Hkx.out.2
          have hzb : wz.heap[b]? = some (.cells #[dx.comp, .pointer (some ⟨dx.bs, 0, none⟩), .map (some dx.br), .map (some dx.ba), dx.stop, .int .i64 dx.cnt, .int .i64 (wrap64 (dx.clk + 1))] 115 (0, 0)) := by
            rw [hwz]
            exact (heap_setCell_ne _ _ _ _ hne').trans ((heap_setCell_same ((heap_setCell_ne _ _ _ _ hne').trans Hn.out.mem.blk) _).trans rfl)
          have hzk := (hcx.block _ (lt_of_obj Hkx.out.1) (fun e => e.elim (fun e => hkn (e ▸ Dm.mut_mem (aget_mem Hr.out))) fun e => hkn (e ▸ hbm))).trans Hkx.out.1
          have z3 : wz.cell? ⟨b, 3, none⟩ = some (.map (some dx.ba)) := cell_of_heap hzb rfl
          have y0 : wz.cell? ⟨w.heap.size, 0, none⟩ = some (.int .i64 k1) := cell_of_heap hzk rfl
          have y1 : wz.cell? ⟨w.heap.size, 1, none⟩ = some (.int .i64 k2) := cell_of_heap hzk rfl
          have y2 : wz.cell? ⟨w.heap.size, 2, none⟩ = some (.int .i64 k3) := cell_of_heap hzk rfl
          have hbr : dx.ba ≠ r.blk := Ne.symm ((Dm.parts Hn.out.mem.nodup).2.2.2.2.2.2.2.2.2.2.1 _ (aget_mem Hr.out)).2.2.2.2
          have hbb : dx.ba ≠ b := Ne.symm (Dm.parts Hn.out.mem.nodup).2.2.2.1
          have Hma := Lib.hid (Hn.out.mem.act.of_block (hcx.block _ Hn.out.mem.act.lt (fun e => e.elim hbr hbb)))
          have Hwz := Lib.hid hwz
          clear hwz hcx hbm hzb hzk hkn hbr hbb q1 q6 f6 r2 fr2 r6 fr6 hne hne'
          refine wp_region_readsQ 5 (by kernel_rfl) (by kernel_rfl) ?_
          intro we hwe
          simp only [List.take_succ_cons, List.take_zero, List.drop_succ_cons, List.drop_zero]
          have hcd : Chg [] wz we := by rw [hwe]; exact (Chg.refl _ _).drew
          have z3d := (hcd.cell (lt_of_cell z3) (by simp)).trans z3
          have y0d := (hcd.cell (lt_of_cell y0) (by simp)).trans y0
          have y1d := (hcd.cell (lt_of_cell y1) (by simp)).trans y1
          have y2d := (hcd.cell (lt_of_cell y2) (by simp)).trans y2
          obtain ⟨o, hdel, hmap⟩ := (Hma.out.kept hcd (by simp)).delete Inp.qkeyed Inp.qk_inj Try.underlying113 (Inp.qkOk Hkey.out) 0
          unfold Inp.qk at hdel
          have Hwe := Lib.hid (show ∀ g : Nat, we.heap[g]? = wz.heap[g]? from fun g => by rw [hwe]; rfl)
          have Hcd := Lib.hid hcd
          have Hmap := Lib.hid hmap
          clear hwe hcd z3 y0 y1 y2 hmap
          repeat go_big_quiet_step (fail)
          refine wpQuiet_nil ?_
          go_wp2_with fail
          go_ret
          have hcd' := Hcd.out
          have hwe' := Hwe.out
          rw [Hwz.out] at hcd' hwe'
          exact upd_end Hn.out (Hact.out Hbusy.out) Hr.out Hf.out hwe' hcd' (fun _ => Hmap.out)
  · have bz : (d.pl.busy (k1, k2, k3) != 0) = true := by simpa using hbusy
    have Hf := Lib.hid (updP_busy (U := U) (C := C) (stp := stp) hbusy)
    clear hbusy
    repeat go_big_quiet_step (fail)
    refine wpQuiet_nil ?_
    go_wp2
    exact ⟨rfl, UPost.mkErr (U := updP U C stp) (x := 8) Hf.out (Next.new H.out.mem Hcd.out) rfl⟩
theorem update_any (fam : UFam w0 RO b comp stop K U chI) (key : QK) (hkey : Inp.QKok key)
    (hre : ∀ w d v, Env w0 RO b w d → d.comp = comp → d.stop = stop → aget d.act key = some v → (∀ k, Kk k → Inp.QKok k ∧ (k.1 ≠ 0 → K d.pl k)) → Calls Try.prog 93 #[.pointer (some ⟨b, 0, none⟩), i3v key] w (RPost (recompP U C stp) chI b key w d))
    (w : World) (d : Dm) (h : Env w0 RO b w d) (hc : d.comp = comp) (hs : d.stop = stop) (hact : d.pl.busy key = 0 → aget d.act key = none)
    (hks1 : ∀ k, Kk k → Inp.QKok k ∧ (k.1 ≠ 0 → K (begP d.pl key) k)) (hdeps : ∀ r, aget d.es key = some r → (0 ≤ r.dur ∧ r.dur < 3) ∧ ∀ k ∈ r.deps, Inp.QKok k ∧ (k.1 ≠ 0 → K (begP d.pl key) k))
    (hks2 : ∀ r s2, aget d.es key = some r → validP U (begP d.pl key) r.pl = (.ok false, s2) → ∀ k, Kk k → Inp.QKok k ∧ (k.1 ≠ 0 → K s2 k)) :
    Calls Try.prog 77 #[.pointer (some ⟨b, 0, none⟩), i3v key] w (UPost (updP U C stp) chI b key w d) :=
  update_anyB fam key hkey w d h hc hs hact (fun _ => hre) (fun _ => hks1) hdeps hks2
end
end Go.Proofs.Ytggiddhhbilcjaa
/- GetUntil: its deferred closure. -/
namespace Go.Proofs.Ytggiddhhbilcjaa
open Go.RowKit Go.ChangeMaps Go.MapKept
set_option linter.unusedVariables false
set_option linter.unusedSimpArgs false
section
variable {b : Nat}
/-- the head's own fields are set -/
theorem DmAt.setHead {w w' : World} {d : Dm} {stop' : Value} {cnt' clk' : Int} (h : DmAt w b d) (hc : ChgP (fun g => g = b) w w') (hb : w'.heap[b]? = some (.cells #[d.comp, .pointer (some ⟨d.bs, 0, none⟩), .map (some d.br), .map (some d.ba), stop', .int .i64 cnt', .int .i64 clk'] 115 (0, 0))) :
    DmAt w' b { d with stop := stop', cnt := cnt', clk := clk' } := by
  obtain ⟨p1, p2, p3, p4, p5, p6, p7, p8, p9, p10, p11, _⟩ := Dm.parts h.nodup
  have hbm : b ∈ d.muts b := by simp [Dm.muts]
  have himm : ∀ g ∈ d.imms, w'.heap[g]? = w.heap[g]? := fun g hg => hc.block g (h.bound g hg) fun e => h.apart g hg (e ▸ hbm)
  have blk : ∀ g, g < w.heap.size → g ≠ b → w'.heap[g]? = w.heap[g]? := fun g hg hn => hc.block g hg hn
  exact ⟨hb, ⟨(blk _ (lt_of_obj h.store.blk) (Ne.symm p1)).trans h.store.blk, h.store.map.of_block (blk _ h.store.map.lt (Ne.symm p2)), fun p hp => ⟨intsKept' (h.store.vals p hp).1 fun g hg => himm g (Dm.imm_store (d := d) hp hg), (h.store.vals p hp).2⟩⟩, h.text, h.res.of_block (blk _ h.res.lt (Ne.symm p3)), h.act.of_block (blk _ h.act.lt (Ne.symm p4)), fun p hp => (h.each p hp).kept (blk _ (h.lt _ (Dm.mut_mem (b := b) hp)) (p11 p hp).1) fun g hg => himm g (Dm.imm_mem (d := d) hp hg), h.nodup, h.apart, fun g hg => Nat.lt_of_lt_of_le (h.bound g hg) hc.size⟩
def Dm.idle (d : Dm) : Dm := { d with stop := .nilFunc, act := [] }
/-- what the closure leaves -/
structure Caught (b vc ec : Nat) (w w' : World) (d : Dm) : Prop where
  mem : DmAt w' b d.idle
  chg : ChgP (fun g => g ∈ d.muts b ∨ g = vc ∨ g = ec) w w'
theorem iface_neq (w : World) (t : TypeId) (v : Value) : (binOp .neq 20 (.iface t v) .nilIface).run Try.prog w = .ok (.bool true) w := by
  go_simp
theorem assert_int (w : World) (v : Value) : (Instr.typeAssert (.iface 150 v) 20 150 true).run Try.prog w = .ok (.tuple #[v, .bool true]) w := by
  simp [Instr.typeAssert, run_underlying Try.underlying150]
theorem catch_start (w : World) (d : Dm) (bx vc ec : Nat) (h : DmAt w b d) :
    ∃ w1 o, w1 = w.setCell ⟨b, 4, none⟩ .nilFunc ∧ (Builtin.clear_ #[113] 0 #[.map (some d.ba)]).run Try.prog w1 = .ok (.tuple #[]) (setBlock w1 d.ba o) ∧ DmAt (setBlock w1 d.ba o) b d.idle ∧ ChgP (fun g => g ∈ d.muts b) w (setBlock w1 d.ba o) ∧ w1.cell? ⟨b, 3, none⟩ = some (.map (some d.ba)) := by
  have hc : ChgP (fun g => g = b) w (w.setCell ⟨b, 4, none⟩ .nilFunc) := (ChgP.refl (fun g => g = b) w).setCell (p := ⟨b, 4, none⟩) (Or.inl rfl) _
  have h1 := h.setHead (stop' := .nilFunc) (cnt' := d.cnt) (clk' := d.clk) hc ((heap_setCell_same h.blk _).trans rfl)
  obtain ⟨o, hrun, hm⟩ := h1.act.clear Try.underlying113 0
  exact ⟨_, o, rfl, hrun, h1.setAct (L := []) hm, (hc.mono fun g hg => by subst hg; simp [Dm.muts]).setBlock (Or.inl (by simp [Dm.muts])) _, cell_of_heap h1.blk rfl⟩
set_option maxRecDepth 100000 in
set_option maxHeartbeats 2000000 in
theorem catch_panic (w : World) (d : Dm) (bx vc ec : Nat) (x : Int) (h : DmAt w b d) (hb : w.heap[bx]? = some (.cells #[.pointer (some ⟨b, 0, none⟩)] 60 (0, 0))) (hbm : bx ∉ d.muts b) (hv : w.heap[vc]? = some (.cells #[.slice none 0 0, .string ⟨#[]⟩] 39 (0, 0))) (hvm : vc ∉ d.muts b) (he : w.heap[ec]? = some (.cells #[.int .i64 0] 34 (0, 0))) (hem : ec ∉ d.muts b) (himm : vc ∉ d.imms ∧ ec ∉ d.imms) :
    CallsD Try.prog 75 #[.pointer (some ⟨bx, 0, none⟩), .pointer (some ⟨vc, 0, none⟩), .pointer (some ⟨ec, 0, none⟩)] (.panicking (chI x)) w fun e u' w' =>
      e = .returned (.tuple #[]) ∧ u' = .panicking [{ v := .iface 150 (.agg #[.int .i64 x]), recovered := true }] ∧ Caught b vc ec w w' d ∧ w'.heap[vc]? = some (.cells #[.slice none 0 0, .string ⟨#[]⟩] 39 (0, 0)) ∧ w'.heap[ec]? = some (.cells #[.int .i64 x] 34 (0, 0)) := by
  have q0 : w.cell? ⟨bx, 0, none⟩ = some (.pointer (some ⟨b, 0, none⟩)) := cell_of_heap hb rfl
  have q4 : w.cell? ⟨b, 4, none⟩ = some d.stop := cell_of_heap h.blk rfl
  have f4 := frozen_of_heap h.blk (i := 4)
  obtain ⟨w1, o, hw1, hclr, hm, hch, q3⟩ := catch_start w d bx vc ec h
  have hbb : bx ≠ b := fun e => hbm (by subst e; simp [Dm.muts])
  have q0' : w1.cell? ⟨bx, 0, none⟩ = some (.pointer (some ⟨b, 0, none⟩)) := by rw [hw1]; exact cell_of_heap ((heap_setCell_ne _ _ _ _ hbb).trans hb) rfl
  have hv2 := (hch.block vc (lt_of_obj hv) hvm).trans hv
  have he2 := (hch.block ec (lt_of_obj he) hem).trans he
  have v0 := cell_of_heap hv2 (i := 0) rfl
  have v1 := cell_of_heap hv2 (i := 1) rfl
  have fv0 := frozen_of_heap hv2 (i := 0)
  have fv1 := frozen_of_heap hv2 (i := 1)
  have ev := cell_of_heap he2 (i := 0) rfl
  have fe := frozen_of_heap he2 (i := 0)
  have Hm := Lib.hid hm
  have Hch := Lib.hid hch
  have Hv2 := Lib.hid hv2
  have He2 := Lib.hid he2
  have Hvm := Lib.hid hvm
  have Hem := Lib.hid hem
  clear hm hch hv2 he2 h hvm hem hv he hbm
  have hta := assert_int
  refine callsD_of_wpS Try.func75 rfl fun c₀ cs hu => ?_
  apply wpS_seq
  apply wpS_region
  simp [wpOpsS, go_sem, Try.ntmps75, Exit.thenS, q0, q4, f4]
  rw [← hw1]
  clear q0 q4 f4 hw1
  apply wpS_seq
  apply wpS_region
  simp [wpOpsS, go_sem, Exit.thenS, q0', q3, hclr]
  clear q0' q3 hclr
  obtain ⟨w2, hw2⟩ : ∃ x, x = setBlock w1 d.ba o := ⟨_, rfl⟩
  rw [← hw2] at Hm Hch Hv2 He2 v0 v1 fv0 fv1 ev fe ⊢
  clear hw2
  have nv := World.new_ne w2 _ v0
  have ne := World.new_ne w2 _ ev
  have lv : vc < w2.heap.size := lt_of_cell v0
  have le : ec < w2.heap.size := lt_of_cell ev
  have hve : vc ≠ ec := fun e => absurd (Hv2.out.symm.trans (e ▸ He2.out)) (by simp)
  have hve' : ec ≠ vc := Ne.symm hve
  apply wpS_seq
  apply wpS_region
  simp [wpOpsS, go_sem, Exit.thenS, recoverD, hu, chI]
  refine wpS_of_wp ?_
  simp only [Array.replicate, List.replicate, List.setIfInBounds_toArray, List.set_cons_zero, List.set_cons_succ, List.append_toArray, List.cons_append, List.nil_append]
  go_wp2_with fail
  go_region
  show bodyPostS Try.prog Try.f75 c₀ cs _ _ _ _ _
  refine ⟨rfl, _, rfl, .tuple #[], results_none rfl _ _ _, rfl, rfl, ⟨?_, ?_⟩, ?_, ?_⟩
  · refine Hm.out.kept (S := fun g => g = vc ∨ g = ec) (((((ChgP.refl _ _).setCell (p := ⟨vc, 0, none⟩) (Or.inl (Or.inl rfl)) _).setCell (p := ⟨vc, 1, none⟩) (Or.inl (Or.inl rfl)) _).setCell (p := ⟨ec, 0, none⟩) (Or.inl (Or.inr rfl)) _).alloc _).drew ?_ ?_
    · rintro g hg (rfl | rfl)
      · exact Hvm.out hg
      · exact Hem.out hg
    · rintro g hg (rfl | rfl)
      · exact himm.1 hg
      · exact himm.2 hg
  · exact (((((Hch.out.mono (T := fun g => g ∈ d.muts b ∨ g = vc ∨ g = ec) fun g hg => Or.inl hg).setCell (p := ⟨vc, 0, none⟩) (Or.inl (Or.inr (Or.inl rfl))) _).setCell (p := ⟨vc, 1, none⟩) (Or.inl (Or.inr (Or.inl rfl))) _).setCell (p := ⟨ec, 0, none⟩) (Or.inl (Or.inr (Or.inr rfl))) _).alloc _).drew
  · refine (heap_past _ _ _ (by simp [World.setCell]; omega)).trans ((heap_setCell_ne _ _ _ _ hve).trans ?_)
    exact (heap_setCell_same (heap_setCell_same Hv2.out _) _).trans rfl
  · refine (heap_past _ _ _ (by simp [World.setCell]; omega)).trans ?_
    exact (heap_setCell_same ((heap_setCell_ne _ _ _ _ hve').trans ((heap_setCell_ne _ _ _ _ hve').trans He2.out)) _).trans rfl
set_option maxRecDepth 100000 in
set_option maxHeartbeats 2000000 in
theorem catch_idle (w : World) (d : Dm) (bx vc ec : Nat) (h : DmAt w b d) (hb : w.heap[bx]? = some (.cells #[.pointer (some ⟨b, 0, none⟩)] 60 (0, 0))) (hbm : bx ∉ d.muts b) :
    CallsD Try.prog 75 #[.pointer (some ⟨bx, 0, none⟩), .pointer (some ⟨vc, 0, none⟩), .pointer (some ⟨ec, 0, none⟩)] .returning w fun e u' w' =>
      e = .returned (.tuple #[]) ∧ u' = .returning ∧ DmAt w' b d.idle ∧ ChgP (fun g => g ∈ d.muts b) w w' := by
  have q0 : w.cell? ⟨bx, 0, none⟩ = some (.pointer (some ⟨b, 0, none⟩)) := cell_of_heap hb rfl
  have q4 : w.cell? ⟨b, 4, none⟩ = some d.stop := cell_of_heap h.blk rfl
  have f4 := frozen_of_heap h.blk (i := 4)
  obtain ⟨w1, o, hw1, hclr, hm, hch, q3⟩ := catch_start w d bx vc ec h
  have hbb : bx ≠ b := fun e => hbm (by subst e; simp [Dm.muts])
  have q0' : w1.cell? ⟨bx, 0, none⟩ = some (.pointer (some ⟨b, 0, none⟩)) := by rw [hw1]; exact cell_of_heap ((heap_setCell_ne _ _ _ _ hbb).trans hb) rfl
  have Hm := Lib.hid hm
  have Hch := Lib.hid hch
  clear hm hch h hbm
  refine callsD_of_wpS Try.func75 rfl fun c₀ cs hu => ?_
  apply wpS_seq
  apply wpS_region
  simp [wpOpsS, go_sem, Try.ntmps75, Exit.thenS, q0, q4, f4]
  rw [← hw1]
  clear q0 q4 f4 hw1
  apply wpS_seq
  apply wpS_region
  simp [wpOpsS, go_sem, Exit.thenS, q0', q3, hclr]
  clear q0' q3 hclr
  apply wpS_seq
  apply wpS_region
  simp [wpOpsS, go_sem, Exit.thenS, recoverD, hu]
  refine wpS_of_wp ?_
  simp only [Array.replicate, List.replicate, List.setIfInBounds_toArray, List.set_cons_zero, List.set_cons_succ, List.append_toArray, List.cons_append, List.nil_append]
  go_wp2_with fail
  show bodyPostS Try.prog Try.f75 c₀ cs _ _ _ _ _
  refine ⟨rfl, .returning, by rw [← hu], .tuple #[], results_none rfl _ _ _, rfl, rfl, Hm.out, Hch.out⟩
end
end Go.Proofs.Ytggiddhhbilcjaa
/- GetUntil. -/
namespace Go.Proofs.Ytggiddhhbilcjaa
open Go.RowKit Go.ChangeMaps Go.MapKept
set_option linter.unusedVariables false
set_option linter.unusedSimpArgs false
/-- what an operation on the database leaves: its state d', idle -/
structure After (b : Nat) (w w' : World) (d d' : Dm) : Prop where
  mem : DmAt w' b d'
  chg : ChgP (fun g => g ∈ d.muts b) w w'
  muts : ∀ g ∈ d'.muts b, g ∈ d.muts b ∨ w.heap.size ≤ g
  imms : ∀ g ∈ d'.imms, g ∈ d.imms ∨ w.heap.size ≤ g
  comp : d'.comp = d.comp
  stop : d'.stop = .nilFunc
def PS.idle (s : PS) : PS := { s with act := [] }
/-- what GetUntil brings -/
def GPost (U : PS → QK → Except Int Unit × PS) (b : Nat) (k : QK) (w : World) (d : Dm) (e : Ending) (w' : World) : Prop :=
  ∃ d', After b w w' d d' ∧ d'.pl = (U d.pl k).2.idle ∧ match (U d.pl k).1 with
    | .ok _ => ∃ a c, e = .returned (.tuple #[.agg #[.slice a ((U d.pl k).2.res k).xs.length c, .string ⟨#[]⟩], .int .i64 0]) ∧ Inp.Ints w' (.slice a ((U d.pl k).2.res k).xs.length c) ((U d.pl k).2.res k).xs
    | .error x => e = .returned (.tuple #[.agg #[.slice none 0 0, .string ⟨#[]⟩], .int .i64 x])
section
variable {w0 : World} {RO : Nat → Prop} {b : Nat} {comp : Value} {U : PS → QK → Except Int Unit × PS}
set_option maxRecDepth 100000 in
set_option maxHeartbeats 4000000 in
theorem getUntil_any (stopv : Value) (hform : stopv = .nilFunc ∨ ∃ f fi ca, stopv = .func (.func f) fi ca) (key : QK) (hkey : key.1 ≠ 0)
    (w : World) (d : Dm) (h : Env w0 RO b w d) (hup : ∀ w' d', Env w0 RO b w' d' → d'.comp = d.comp → d'.stop = stopv → d'.pl = d.pl → Calls Try.prog 77 #[.pointer (some ⟨b, 0, none⟩), i3v key] w' (UPost U chI b key w' d')) :
    Calls Try.prog 55 #[.pointer (some ⟨b, 0, none⟩), i3v key, stopv] w (GPost U b key w d) := by
  obtain ⟨k1, k2, k3⟩ := key
  have b0 : (k1 == 0) = false := by simpa using hkey
  have q4 : w.cell? ⟨b, 4, none⟩ = some d.stop := cell_of_heap h.mem.blk rfl
  have f4 := frozen_of_heap h.mem.blk (i := 4)
  have lb : b < w.heap.size := lt_of_cell q4
  have nb := World.new_ne w _ q4
  have lb1 : b < w.heap.size + 1 := by omega
  have lb2 : b < w.heap.size + 1 + 1 := by omega
  have lb3 : b < w.heap.size + 1 + 1 + 1 := by omega
  have hmf : ∀ (fn : Fn) (first cap : Array Value) (w : World), (Instr.makeFunc fn first cap).run Try.prog w = .ok (.func fn first cap) w := fun _ _ _ _ => rfl
  have H := Lib.hid h
  have Hup := Lib.hid hup
  clear h hup hkey
  rcases hform with rfl | ⟨f, fi, ca, rfl⟩
  · skip
    unfold i3v
    go_enter_defers Try.func55, Try.ntmps55
    go_wp2_with fail
    have hcs : ChgP (fun g => g = b) w (w.setCell ⟨b, 4, none⟩ .nilFunc) := (ChgP.refl (fun g => g = b) w).setCell (p := ⟨b, 4, none⟩) (Or.inl rfl) _
    have hm0 := H.out.mem.setHead (stop' := .nilFunc) (cnt' := d.cnt) (clk' := d.clk) hcs ((heap_setCell_same H.out.mem.blk _).trans rfl)
    have hsz : (w.setCell ⟨b, 4, none⟩ .nilFunc).heap.size = w.heap.size := by simp [World.setCell]
    obtain ⟨wa, hwa⟩ : ∃ x, x = (((((w.setCell ⟨b, 4, none⟩ .nilFunc).alloc (.cells #[.pointer (some ⟨b, 0, none⟩)] 60)).alloc (.cells #[.int .i64 k1, .int .i64 k2, .int .i64 k3] 43)).alloc (.cells #[.slice none 0 0, .string ⟨#[]⟩] 39)).alloc (.cells #[.int .i64 0] 34)) := ⟨_, rfl⟩
    have hca : Chg [] (w.setCell ⟨b, 4, none⟩ .nilFunc) wa := by rw [hwa]; exact ((((Chg.refl [] _).alloc _).alloc _).alloc _).alloc _
    have hasz : wa.heap.size = w.heap.size + 4 := by rw [hwa]; simp [World.setCell]
    have hb1 : wa.heap[w.heap.size]? = some (.cells #[.pointer (some ⟨b, 0, none⟩)] 60 (0, 0)) := by rw [hwa]; exact (heap_past _ _ _ (by simp [hsz]; omega)).trans ((heap_past _ _ _ (by simp [hsz]; omega)).trans ((heap_past _ _ _ (by simp [hsz])).trans (heap_at _ _ _ hsz.symm)))
    have hb3 : wa.heap[w.heap.size + 1 + 1]? = some (.cells #[.slice none 0 0, .string ⟨#[]⟩] 39 (0, 0)) := by rw [hwa]; exact (heap_past _ _ _ (by simp [hsz])).trans (heap_at _ _ _ (by simp [hsz]))
    have hb4 : wa.heap[w.heap.size + 1 + 1 + 1]? = some (.cells #[.int .i64 0] 34 (0, 0)) := by rw [hwa]; exact heap_at _ _ _ (by simp [hsz])
    rw [← hwa]
    clear hwa hsz
    have hnm : ∀ g, w.heap.size ≤ g → g ∉ d.muts b ∧ g ∉ d.imms := fun g hg => ⟨fun hm => by have := H.out.mem.lt g hm; omega, fun hm => by have := H.out.mem.bound g hm; omega⟩
    have hwch : ChgP (fun g => g ∈ d.muts b) w wa := (hcs.mono fun g hg => by subst hg; simp [Dm.muts]).new hca
    have henv : Env w0 RO b wa { d with stop := .nilFunc } := ⟨hm0.new hca, fun g hg => by
      obtain ⟨h1, h2, h3⟩ := H.out.ro g hg
      exact ⟨by omega, (hwch.block g h1 h3).trans h2, h3⟩⟩
    have Hcall := Lib.hid (Hup.out wa { d with stop := .nilFunc } henv rfl rfl rfl)
    have Hb := Lib.hid (And.intro hb1 (And.intro hb3 hb4))
    have Hnm := Lib.hid hnm
    have Hwch := Lib.hid hwch
    have Hasz := Lib.hid hasz
    unfold i3v at Hcall
    clear hcs hm0 hca hb1 hb3 hb4 hnm hwch henv hasz q4 f4 nb lb1 lb2 lb3
    refine Hcall.out.mono ?_
    rintro e w1 hp
    rcases hu : U d.pl (k1, k2, k3) with ⟨x | y, s'⟩
    · obtain ⟨d2, rfl, hn, rfl⟩ := hp.err hu
      have Hu := Lib.hid hu
      have o1 := hn.other (lt_of_obj Hb.out.1) (Hnm.out _ (Nat.le_refl _)).1
      have o3 := hn.other (lt_of_obj Hb.out.2.1) (Hnm.out _ (by omega)).1
      have o4 := hn.other (lt_of_obj Hb.out.2.2) (Hnm.out _ (by omega)).1
      have i3 : w.heap.size + 1 + 1 ∉ d2.imms := fun hm => (hn.imms _ hm).elim (Hnm.out _ (by omega)).2 fun h => by have := Hasz.out; omega
      have i4 : w.heap.size + 1 + 1 + 1 ∉ d2.imms := fun hm => (hn.imms _ hm).elim (Hnm.out _ (by omega)).2 fun h => by have := Hasz.out; omega
      have hcat := catch_panic w1 d2 w.heap.size (w.heap.size + 1 + 1) (w.heap.size + 1 + 1 + 1) x hn.mem (o1.1.trans Hb.out.1) o1.2.1 (o3.1.trans Hb.out.2.1) o3.2.1 (o4.1.trans Hb.out.2.2) o4.2.1 ⟨i3, i4⟩
      have Hn := Lib.hid hn
      clear hu hp hn o1 o3 o4 i3 i4
      refine leaves_cons (f := 75) (args := #[.pointer (some ⟨w.heap.size, 0, none⟩), .pointer (some ⟨w.heap.size + 1 + 1, 0, none⟩), .pointer (some ⟨w.heap.size + 1 + 1 + 1, 0, none⟩)]) (by simp) (by simp [go_sem]) ?_
      refine hcat.mono ?_
      rintro e u' w2 ⟨rfl, rfl, hcau, hv, he⟩
      have v0 := cell_of_heap hv (i := 0) rfl
      have v1 := cell_of_heap hv (i := 1) rfl
      have e0 := cell_of_heap he (i := 0) rfl
      have hfin : GPost U b (k1, k2, k3) w d (.returned (.tuple #[.agg #[.slice none 0 0, .string ⟨#[]⟩], .int .i64 x])) w2 := by
        refine ⟨d2.idle, ⟨hcau.mem, (Hwch.out.trans Hn.out.chg).comp hcau.chg fun g hg => ?_, fun g hg => ?_, fun g hg => ?_, Hn.out.comp, rfl⟩, ?_, ?_⟩
        · rcases hg with hg | rfl | rfl
          · exact (Hn.out.muts g hg).imp id fun h => by have := Hasz.out; omega
          · right; omega
          · right; omega
        · exact (Hn.out.muts g hg).imp id fun h => by have := Hasz.out; omega
        · exact (Hn.out.imms g hg).imp id fun h => by have := Hasz.out; omega
        · rw [Hu.out]; rfl
        · rw [Hu.out]
      simp [Leaves, settle, results, Try.results55, go_sem, v0, v1, e0]
      exact hfin
    · obtain ⟨d2, r, rfl, hn, rfl, hr⟩ := hp.ok hu
      have Hu := Lib.hid hu
      have o1 := hn.other (lt_of_obj Hb.out.1) (Hnm.out _ (Nat.le_refl _)).1
      have o3 := hn.other (lt_of_obj Hb.out.2.1) (Hnm.out _ (by omega)).1
      have o4 := hn.other (lt_of_obj Hb.out.2.2) (Hnm.out _ (by omega)).1
      have hrs := hn.mem.rs hr
      have r0 : w1.cell? ⟨r.blk, 0, none⟩ = some (.slice r.a r.xs.length r.cap) := cell_of_heap hrs.blk rfl
      have r1 : w1.cell? ⟨r.blk, 1, none⟩ = some (.string ⟨#[]⟩) := cell_of_heap hrs.blk rfl
      have Hcl := Lib.hid (Inp.memoClone w1 _ ⟨#[]⟩ r.xs hrs.nums hrs.size)
      have i3 : w.heap.size + 1 + 1 ∉ d2.imms := fun hm => (hn.imms _ hm).elim (Hnm.out _ (by omega)).2 fun h => by have := Hasz.out; omega
      have i4 : w.heap.size + 1 + 1 + 1 ∉ d2.imms := fun hm => (hn.imms _ hm).elim (Hnm.out _ (by omega)).2 fun h => by have := Hasz.out; omega
      have Hn := Lib.hid hn
      have Hr := Lib.hid hr
      have Ho := Lib.hid (And.intro (And.intro (o1.1.trans Hb.out.1) o1.2.1) (And.intro (And.intro (o3.1.trans Hb.out.2.1) (And.intro o3.2.1 i3)) (And.intro (o4.1.trans Hb.out.2.2) (And.intro o4.2.1 i4))))
      clear hu hp hn hr hrs o1 o3 o4 i3 i4
      unfold Rs.val
      go_wp2_with fail
      refine Hcl.out.mono ?_
      rintro e w3 ⟨a3, c3, rfl, hi3, hn3, hc3⟩
      have b1 := (hc3.block _ (lt_of_obj Ho.out.1.1) (by simp)).trans Ho.out.1.1
      have b3 := (hc3.block _ (lt_of_obj Ho.out.2.1.1) (by simp)).trans Ho.out.2.1.1
      have b4 := (hc3.block _ (lt_of_obj Ho.out.2.2.1) (by simp)).trans Ho.out.2.2.1
      have v0 := cell_of_heap b3 (i := 0) rfl
      have v1 := cell_of_heap b3 (i := 1) rfl
      have fv0 := frozen_of_heap b3 (i := 0)
      have fv1 := frozen_of_heap b3 (i := 1)
      have e0 := cell_of_heap b4 (i := 0) rfl
      have fe0 := frozen_of_heap b4 (i := 0)
      have hz3 := Hn.out.chg.size
      have hz4 := hc3.size
      have HB := Lib.hid (And.intro b1 (And.intro b3 b4))
      have Hi3 := Lib.hid hi3
      have Hn3 := Lib.hid hn3
      have Hc3 := Lib.hid hc3
      have Hz := Lib.hid (And.intro hz3 hz4)
      clear b1 b3 b4 hi3 hn3 hc3 r0 r1 hz3 hz4
      go_wp2_with fail
      obtain ⟨w4, hw4⟩ : ∃ x, x = (((w3.setCell ⟨w.heap.size + 1 + 1, 0, none⟩ (.slice a3 r.xs.length c3)).setCell ⟨w.heap.size + 1 + 1, 1, none⟩ (.string ⟨#[]⟩)).setCell ⟨w.heap.size + 1 + 1 + 1, 0, none⟩ (.int .i64 0)) := ⟨_, rfl⟩
      rw [← hw4]
      have hcw : ChgP (fun g => g = w.heap.size + 1 + 1 ∨ g = w.heap.size + 1 + 1 + 1) w3 w4 := by
        rw [hw4]
        exact (((ChgP.refl (fun g => g = w.heap.size + 1 + 1 ∨ g = w.heap.size + 1 + 1 + 1) w3).setCell (p := ⟨w.heap.size + 1 + 1, 0, none⟩) (Or.inl (Or.inl rfl)) _).setCell (p := ⟨w.heap.size + 1 + 1, 1, none⟩) (Or.inl (Or.inl rfl)) _).setCell (p := ⟨w.heap.size + 1 + 1 + 1, 0, none⟩) (Or.inl (Or.inr rfl)) _
      have hb1 := (hcw.block _ (lt_of_obj HB.out.1) (by omega)).trans HB.out.1
      have hb3 : w4.heap[w.heap.size + 1 + 1]? = some (.cells #[.slice a3 r.xs.length c3, .string ⟨#[]⟩] 39 (0, 0)) := by
        rw [hw4]
        exact (heap_setCell_ne _ _ _ _ (by simp only; omega)).trans ((heap_setCell_same (heap_setCell_same HB.out.2.1 _) _).trans rfl)
      have hb4 : w4.heap[w.heap.size + 1 + 1 + 1]? = some (.cells #[.int .i64 0] 34 (0, 0)) := by
        rw [hw4]
        exact (heap_setCell_same ((heap_setCell_ne _ _ _ _ (by simp only; omega)).trans ((heap_setCell_ne _ _ _ _ (by simp only; omega)).trans HB.out.2.2)) _).trans rfl
      have hm4 : DmAt w4 b d2 := (Hn.out.mem.new Hc3.out).kept hcw (fun g hg e => e.elim (fun e => Ho.out.2.1.2.1 (e ▸ hg)) fun e => Ho.out.2.2.2.1 (e ▸ hg)) (fun g hg e => e.elim (fun e => Ho.out.2.1.2.2 (e ▸ hg)) fun e => Ho.out.2.2.2.2 (e ▸ hg))
      have hi4 : Inp.Ints w4 (.slice a3 r.xs.length c3) r.xs := intsKept' Hi3.out fun g hg => by
        have hl : w1.heap.size ≤ g := by
          cases a3 with
          | none => simp [oblk] at hg
          | some ad => simp [oblk] at hg; subst hg; exact Hn3.out ad rfl
        have hl3 : g < w3.heap.size := by
          rcases Hi3.out with ⟨e, _⟩ | ⟨g', off, cap, cc, fr, e, _, _, hh, _⟩
          · simp only [Value.slice.injEq] at e; rw [e.1] at hg; simp [oblk] at hg
          · simp only [Value.slice.injEq] at e; rw [e.1] at hg; simp [oblk] at hg; subst hg; exact lt_of_obj hh
        exact hcw.block g hl3 (by have h1 := Hz.out.1; have h2 := Hasz.out; omega)
      clear hw4 v0 v1 fv0 fv1 e0 fe0
      have hcat := catch_idle w4 d2 w.heap.size (w.heap.size + 1 + 1) (w.heap.size + 1 + 1 + 1) hm4 hb1 Ho.out.1.2
      refine leaves_cons (f := 75) (args := #[.pointer (some ⟨w.heap.size, 0, none⟩), .pointer (some ⟨w.heap.size + 1 + 1, 0, none⟩), .pointer (some ⟨w.heap.size + 1 + 1 + 1, 0, none⟩)]) (by simp) (by simp [go_sem]) ?_
      refine hcat.mono ?_
      rintro e u' w5 ⟨rfl, rfl, hm5, hch5⟩
      have hb35 := (hch5.block _ (lt_of_obj hb3) Ho.out.2.1.2.1).trans hb3
      have hb45 := (hch5.block _ (lt_of_obj hb4) Ho.out.2.2.2.1).trans hb4
      have v0 := cell_of_heap hb35 (i := 0) rfl
      have v1 := cell_of_heap hb35 (i := 1) rfl
      have e0 := cell_of_heap hb45 (i := 0) rfl
      have hfin : GPost U b (k1, k2, k3) w d (.returned (.tuple #[.agg #[.slice a3 r.xs.length c3, .string ⟨#[]⟩], .int .i64 0])) w5 := by
        refine ⟨d2.idle, ⟨hm5, (((Hwch.out.trans Hn.out.chg).new Hc3.out).comp hcw fun g hg => ?_).comp hch5 fun g hg => ?_, fun g hg => ?_, fun g hg => ?_, Hn.out.comp, rfl⟩, ?_, ?_⟩
        · right; omega
        · exact (Hn.out.muts g hg).imp id fun h => by have := Hasz.out; omega
        · exact (Hn.out.muts g hg).imp id fun h => by have := Hasz.out; omega
        · exact (Hn.out.imms g hg).imp id fun h => by have := Hasz.out; omega
        · rw [Hu.out]; rfl
        · rw [Hu.out]
          refine ⟨a3, c3, ?_, ?_⟩
          · show _ = Ending.returned (.tuple #[.agg #[.slice a3 (d2.pl.res (k1, k2, k3)).xs.length c3, _], _])
            rw [Dm.res_pl Hr.out]; rfl
          · show Inp.Ints w5 (.slice a3 (d2.pl.res (k1, k2, k3)).xs.length c3) (d2.pl.res (k1, k2, k3)).xs
            rw [Dm.res_pl Hr.out]
            refine intsKept' hi4 fun g hg => hch5.block g ?_ fun hm => ?_
            · rcases hi4 with ⟨e, _⟩ | ⟨g', off, cap, cc, fr, e, _, _, hh, _⟩
              · simp only [Value.slice.injEq] at e; rw [e.1] at hg; simp [oblk] at hg
              · simp only [Value.slice.injEq] at e; rw [e.1] at hg; simp [oblk] at hg; subst hg; exact lt_of_obj hh
            · have h1 := Hn.out.mem.lt g hm
              cases a3 with
              | none => simp [oblk] at hg
              | some ad => simp [oblk] at hg; subst hg; have := Hn3.out ad rfl; omega
      simp [Leaves, settle, results, Try.results55, go_sem, v0, v1, e0]
      exact hfin
  · skip
    unfold i3v
    go_enter_defers Try.func55, Try.ntmps55
    go_wp2_with fail
    have hcs : ChgP (fun g => g = b) w (w.setCell ⟨b, 4, none⟩ (.func (.func f) fi ca)) := (ChgP.refl (fun g => g = b) w).setCell (p := ⟨b, 4, none⟩) (Or.inl rfl) _
    have hm0 := H.out.mem.setHead (stop' := (.func (.func f) fi ca)) (cnt' := d.cnt) (clk' := d.clk) hcs ((heap_setCell_same H.out.mem.blk _).trans rfl)
    have hsz : (w.setCell ⟨b, 4, none⟩ (.func (.func f) fi ca)).heap.size = w.heap.size := by simp [World.setCell]
    obtain ⟨wa, hwa⟩ : ∃ x, x = (((((w.setCell ⟨b, 4, none⟩ (.func (.func f) fi ca)).alloc (.cells #[.pointer (some ⟨b, 0, none⟩)] 60)).alloc (.cells #[.int .i64 k1, .int .i64 k2, .int .i64 k3] 43)).alloc (.cells #[.slice none 0 0, .string ⟨#[]⟩] 39)).alloc (.cells #[.int .i64 0] 34)) := ⟨_, rfl⟩
    have hca : Chg [] (w.setCell ⟨b, 4, none⟩ (.func (.func f) fi ca)) wa := by rw [hwa]; exact ((((Chg.refl [] _).alloc _).alloc _).alloc _).alloc _
    have hasz : wa.heap.size = w.heap.size + 4 := by rw [hwa]; simp [World.setCell]
    have hb1 : wa.heap[w.heap.size]? = some (.cells #[.pointer (some ⟨b, 0, none⟩)] 60 (0, 0)) := by rw [hwa]; exact (heap_past _ _ _ (by simp [hsz]; omega)).trans ((heap_past _ _ _ (by simp [hsz]; omega)).trans ((heap_past _ _ _ (by simp [hsz])).trans (heap_at _ _ _ hsz.symm)))
    have hb3 : wa.heap[w.heap.size + 1 + 1]? = some (.cells #[.slice none 0 0, .string ⟨#[]⟩] 39 (0, 0)) := by rw [hwa]; exact (heap_past _ _ _ (by simp [hsz])).trans (heap_at _ _ _ (by simp [hsz]))
    have hb4 : wa.heap[w.heap.size + 1 + 1 + 1]? = some (.cells #[.int .i64 0] 34 (0, 0)) := by rw [hwa]; exact heap_at _ _ _ (by simp [hsz])
    rw [← hwa]
    clear hwa hsz
    have hnm : ∀ g, w.heap.size ≤ g → g ∉ d.muts b ∧ g ∉ d.imms := fun g hg => ⟨fun hm => by have := H.out.mem.lt g hm; omega, fun hm => by have := H.out.mem.bound g hm; omega⟩
    have hwch : ChgP (fun g => g ∈ d.muts b) w wa := (hcs.mono fun g hg => by subst hg; simp [Dm.muts]).new hca
    have henv : Env w0 RO b wa { d with stop := (.func (.func f) fi ca) } := ⟨hm0.new hca, fun g hg => by
      obtain ⟨h1, h2, h3⟩ := H.out.ro g hg
      exact ⟨by omega, (hwch.block g h1 h3).trans h2, h3⟩⟩
    have Hcall := Lib.hid (Hup.out wa { d with stop := (.func (.func f) fi ca) } henv rfl rfl rfl)
    have Hb := Lib.hid (And.intro hb1 (And.intro hb3 hb4))
    have Hnm := Lib.hid hnm
    have Hwch := Lib.hid hwch
    have Hasz := Lib.hid hasz
    unfold i3v at Hcall
    clear hcs hm0 hca hb1 hb3 hb4 hnm hwch henv hasz q4 f4 nb lb1 lb2 lb3
    refine Hcall.out.mono ?_
    rintro e w1 hp
    rcases hu : U d.pl (k1, k2, k3) with ⟨x | y, s'⟩
    · obtain ⟨d2, rfl, hn, rfl⟩ := hp.err hu
      have Hu := Lib.hid hu
      have o1 := hn.other (lt_of_obj Hb.out.1) (Hnm.out _ (Nat.le_refl _)).1
      have o3 := hn.other (lt_of_obj Hb.out.2.1) (Hnm.out _ (by omega)).1
      have o4 := hn.other (lt_of_obj Hb.out.2.2) (Hnm.out _ (by omega)).1
      have i3 : w.heap.size + 1 + 1 ∉ d2.imms := fun hm => (hn.imms _ hm).elim (Hnm.out _ (by omega)).2 fun h => by have := Hasz.out; omega
      have i4 : w.heap.size + 1 + 1 + 1 ∉ d2.imms := fun hm => (hn.imms _ hm).elim (Hnm.out _ (by omega)).2 fun h => by have := Hasz.out; omega
      have hcat := catch_panic w1 d2 w.heap.size (w.heap.size + 1 + 1) (w.heap.size + 1 + 1 + 1) x hn.mem (o1.1.trans Hb.out.1) o1.2.1 (o3.1.trans Hb.out.2.1) o3.2.1 (o4.1.trans Hb.out.2.2) o4.2.1 ⟨i3, i4⟩
      have Hn := Lib.hid hn
      clear hu hp hn o1 o3 o4 i3 i4
      refine leaves_cons (f := 75) (args := #[.pointer (some ⟨w.heap.size, 0, none⟩), .pointer (some ⟨w.heap.size + 1 + 1, 0, none⟩), .pointer (some ⟨w.heap.size + 1 + 1 + 1, 0, none⟩)]) (by simp) (by simp [go_sem]) ?_
      refine hcat.mono ?_
      rintro e u' w2 ⟨rfl, rfl, hcau, hv, he⟩
      have v0 := cell_of_heap hv (i := 0) rfl
      have v1 := cell_of_heap hv (i := 1) rfl
      have e0 := cell_of_heap he (i := 0) rfl
      have hfin : GPost U b (k1, k2, k3) w d (.returned (.tuple #[.agg #[.slice none 0 0, .string ⟨#[]⟩], .int .i64 x])) w2 := by
        refine ⟨d2.idle, ⟨hcau.mem, (Hwch.out.trans Hn.out.chg).comp hcau.chg fun g hg => ?_, fun g hg => ?_, fun g hg => ?_, Hn.out.comp, rfl⟩, ?_, ?_⟩
        · rcases hg with hg | rfl | rfl
          · exact (Hn.out.muts g hg).imp id fun h => by have := Hasz.out; omega
          · right; omega
          · right; omega
        · exact (Hn.out.muts g hg).imp id fun h => by have := Hasz.out; omega
        · exact (Hn.out.imms g hg).imp id fun h => by have := Hasz.out; omega
        · rw [Hu.out]; rfl
        · rw [Hu.out]
      simp [Leaves, settle, results, Try.results55, go_sem, v0, v1, e0]
      exact hfin
    · obtain ⟨d2, r, rfl, hn, rfl, hr⟩ := hp.ok hu
      have Hu := Lib.hid hu
      have o1 := hn.other (lt_of_obj Hb.out.1) (Hnm.out _ (Nat.le_refl _)).1
      have o3 := hn.other (lt_of_obj Hb.out.2.1) (Hnm.out _ (by omega)).1
      have o4 := hn.other (lt_of_obj Hb.out.2.2) (Hnm.out _ (by omega)).1
      have hrs := hn.mem.rs hr
      have r0 : w1.cell? ⟨r.blk, 0, none⟩ = some (.slice r.a r.xs.length r.cap) := cell_of_heap hrs.blk rfl
      have r1 : w1.cell? ⟨r.blk, 1, none⟩ = some (.string ⟨#[]⟩) := cell_of_heap hrs.blk rfl
      have Hcl := Lib.hid (Inp.memoClone w1 _ ⟨#[]⟩ r.xs hrs.nums hrs.size)
      have i3 : w.heap.size + 1 + 1 ∉ d2.imms := fun hm => (hn.imms _ hm).elim (Hnm.out _ (by omega)).2 fun h => by have := Hasz.out; omega
      have i4 : w.heap.size + 1 + 1 + 1 ∉ d2.imms := fun hm => (hn.imms _ hm).elim (Hnm.out _ (by omega)).2 fun h => by have := Hasz.out; omega
      have Hn := Lib.hid hn
      have Hr := Lib.hid hr
      have Ho := Lib.hid (And.intro (And.intro (o1.1.trans Hb.out.1) o1.2.1) (And.intro (And.intro (o3.1.trans Hb.out.2.1) (And.intro o3.2.1 i3)) (And.intro (o4.1.trans Hb.out.2.2) (And.intro o4.2.1 i4))))
      clear hu hp hn hr hrs o1 o3 o4 i3 i4
      unfold Rs.val
      go_wp2_with fail
      refine Hcl.out.mono ?_
      rintro e w3 ⟨a3, c3, rfl, hi3, hn3, hc3⟩
      have b1 := (hc3.block _ (lt_of_obj Ho.out.1.1) (by simp)).trans Ho.out.1.1
      have b3 := (hc3.block _ (lt_of_obj Ho.out.2.1.1) (by simp)).trans Ho.out.2.1.1
      have b4 := (hc3.block _ (lt_of_obj Ho.out.2.2.1) (by simp)).trans Ho.out.2.2.1
      have v0 := cell_of_heap b3 (i := 0) rfl
      have v1 := cell_of_heap b3 (i := 1) rfl
      have fv0 := frozen_of_heap b3 (i := 0)
      have fv1 := frozen_of_heap b3 (i := 1)
      have e0 := cell_of_heap b4 (i := 0) rfl
      have fe0 := frozen_of_heap b4 (i := 0)
      have hz3 := Hn.out.chg.size
      have hz4 := hc3.size
      have HB := Lib.hid (And.intro b1 (And.intro b3 b4))
      have Hi3 := Lib.hid hi3
      have Hn3 := Lib.hid hn3
      have Hc3 := Lib.hid hc3
      have Hz := Lib.hid (And.intro hz3 hz4)
      clear b1 b3 b4 hi3 hn3 hc3 r0 r1 hz3 hz4
      go_wp2_with fail
      obtain ⟨w4, hw4⟩ : ∃ x, x = (((w3.setCell ⟨w.heap.size + 1 + 1, 0, none⟩ (.slice a3 r.xs.length c3)).setCell ⟨w.heap.size + 1 + 1, 1, none⟩ (.string ⟨#[]⟩)).setCell ⟨w.heap.size + 1 + 1 + 1, 0, none⟩ (.int .i64 0)) := ⟨_, rfl⟩
      rw [← hw4]
      have hcw : ChgP (fun g => g = w.heap.size + 1 + 1 ∨ g = w.heap.size + 1 + 1 + 1) w3 w4 := by
        rw [hw4]
        exact (((ChgP.refl (fun g => g = w.heap.size + 1 + 1 ∨ g = w.heap.size + 1 + 1 + 1) w3).setCell (p := ⟨w.heap.size + 1 + 1, 0, none⟩) (Or.inl (Or.inl rfl)) _).setCell (p := ⟨w.heap.size + 1 + 1, 1, none⟩) (Or.inl (Or.inl rfl)) _).setCell (p := ⟨w.heap.size + 1 + 1 + 1, 0, none⟩) (Or.inl (Or.inr rfl)) _
      have hb1 := (hcw.block _ (lt_of_obj HB.out.1) (by omega)).trans HB.out.1
      have hb3 : w4.heap[w.heap.size + 1 + 1]? = some (.cells #[.slice a3 r.xs.length c3, .string ⟨#[]⟩] 39 (0, 0)) := by
        rw [hw4]
        exact (heap_setCell_ne _ _ _ _ (by simp only; omega)).trans ((heap_setCell_same (heap_setCell_same HB.out.2.1 _) _).trans rfl)
      have hb4 : w4.heap[w.heap.size + 1 + 1 + 1]? = some (.cells #[.int .i64 0] 34 (0, 0)) := by
        rw [hw4]
        exact (heap_setCell_same ((heap_setCell_ne _ _ _ _ (by simp only; omega)).trans ((heap_setCell_ne _ _ _ _ (by simp only; omega)).trans HB.out.2.2)) _).trans rfl
      have hm4 : DmAt w4 b d2 := (Hn.out.mem.new Hc3.out).kept hcw (fun g hg e => e.elim (fun e => Ho.out.2.1.2.1 (e ▸ hg)) fun e => Ho.out.2.2.2.1 (e ▸ hg)) (fun g hg e => e.elim (fun e => Ho.out.2.1.2.2 (e ▸ hg)) fun e => Ho.out.2.2.2.2 (e ▸ hg))
      have hi4 : Inp.Ints w4 (.slice a3 r.xs.length c3) r.xs := intsKept' Hi3.out fun g hg => by
        have hl : w1.heap.size ≤ g := by
          cases a3 with
          | none => simp [oblk] at hg
          | some ad => simp [oblk] at hg; subst hg; exact Hn3.out ad rfl
        have hl3 : g < w3.heap.size := by
          rcases Hi3.out with ⟨e, _⟩ | ⟨g', off, cap, cc, fr, e, _, _, hh, _⟩
          · simp only [Value.slice.injEq] at e; rw [e.1] at hg; simp [oblk] at hg
          · simp only [Value.slice.injEq] at e; rw [e.1] at hg; simp [oblk] at hg; subst hg; exact lt_of_obj hh
        exact hcw.block g hl3 (by have h1 := Hz.out.1; have h2 := Hasz.out; omega)
      clear hw4 v0 v1 fv0 fv1 e0 fe0
      have hcat := catch_idle w4 d2 w.heap.size (w.heap.size + 1 + 1) (w.heap.size + 1 + 1 + 1) hm4 hb1 Ho.out.1.2
      refine leaves_cons (f := 75) (args := #[.pointer (some ⟨w.heap.size, 0, none⟩), .pointer (some ⟨w.heap.size + 1 + 1, 0, none⟩), .pointer (some ⟨w.heap.size + 1 + 1 + 1, 0, none⟩)]) (by simp) (by simp [go_sem]) ?_
      refine hcat.mono ?_
      rintro e u' w5 ⟨rfl, rfl, hm5, hch5⟩
      have hb35 := (hch5.block _ (lt_of_obj hb3) Ho.out.2.1.2.1).trans hb3
      have hb45 := (hch5.block _ (lt_of_obj hb4) Ho.out.2.2.2.1).trans hb4
      have v0 := cell_of_heap hb35 (i := 0) rfl
      have v1 := cell_of_heap hb35 (i := 1) rfl
      have e0 := cell_of_heap hb45 (i := 0) rfl
      have hfin : GPost U b (k1, k2, k3) w d (.returned (.tuple #[.agg #[.slice a3 r.xs.length c3, .string ⟨#[]⟩], .int .i64 0])) w5 := by
        refine ⟨d2.idle, ⟨hm5, (((Hwch.out.trans Hn.out.chg).new Hc3.out).comp hcw fun g hg => ?_).comp hch5 fun g hg => ?_, fun g hg => ?_, fun g hg => ?_, Hn.out.comp, rfl⟩, ?_, ?_⟩
        · right; omega
        · exact (Hn.out.muts g hg).imp id fun h => by have := Hasz.out; omega
        · exact (Hn.out.muts g hg).imp id fun h => by have := Hasz.out; omega
        · exact (Hn.out.imms g hg).imp id fun h => by have := Hasz.out; omega
        · rw [Hu.out]; rfl
        · rw [Hu.out]
          refine ⟨a3, c3, ?_, ?_⟩
          · show _ = Ending.returned (.tuple #[.agg #[.slice a3 (d2.pl.res (k1, k2, k3)).xs.length c3, _], _])
            rw [Dm.res_pl Hr.out]; rfl
          · show Inp.Ints w5 (.slice a3 (d2.pl.res (k1, k2, k3)).xs.length c3) (d2.pl.res (k1, k2, k3)).xs
            rw [Dm.res_pl Hr.out]
            refine intsKept' hi4 fun g hg => hch5.block g ?_ fun hm => ?_
            · rcases hi4 with ⟨e, _⟩ | ⟨g', off, cap, cc, fr, e, _, _, hh, _⟩
              · simp only [Value.slice.injEq] at e; rw [e.1] at hg; simp [oblk] at hg
              · simp only [Value.slice.injEq] at e; rw [e.1] at hg; simp [oblk] at hg; subst hg; exact lt_of_obj hh
            · have h1 := Hn.out.mem.lt g hm
              cases a3 with
              | none => simp [oblk] at hg
              | some ad => simp [oblk] at hg; subst hg; have := Hn3.out ad rfl; omega
      simp [Leaves, settle, results, Try.results55, go_sem, v0, v1, e0]
      exact hfin
end
end Go.Proofs.Ytggiddhhbilcjaa
