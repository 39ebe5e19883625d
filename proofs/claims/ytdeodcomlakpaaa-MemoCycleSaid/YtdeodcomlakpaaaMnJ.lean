/- update: what it does to the database in memory. -/
import Derived.Test.YtdeodcomlakpaaaMnI
namespace Go.Proofs.Ytdeodcomlakpaaa
open Go.RowKit Go.ChangeMaps Go.MapKept
set_option linter.unusedVariables false
set_option linter.unusedSimpArgs false
/-- as 'Next', but for one key -/
structure NextK (x : QK) (b : Nat) (w w' : World) (d d' : Dm) : Prop where
  mem : DmAt w' b d'
  chg : ChgP (fun g => g ∈ d.muts b) w w'
  muts : ∀ g ∈ d'.muts b, g ∈ d.muts b ∨ w.heap.size ≤ g
  imms : ∀ g ∈ d'.imms, g ∈ d.imms ∨ w.heap.size ≤ g
  comp : d'.comp = d.comp
  stop : d'.stop = d.stop
  store : d'.S = d.S
  bs : d'.bs = d.bs
  bsm : d'.bsm = d.bsm
  br : d'.br = d.br
  ba : d'.ba = d.ba
  busy : ∀ k v, k ≠ x → aget d.act k = some v → aget d'.act k = some v ∧ aget d'.es k = aget d.es k
theorem Next.toK {b : Nat} {w w' : World} {d d' : Dm} (h : Next b w w' d d') (x : QK) : NextK x b w w' d d' :=
  ⟨h.mem, h.chg, h.muts, h.imms, h.comp, h.stop, h.store, h.bs, h.bsm, h.br, h.ba, fun k v _ hk => h.busy k v hk⟩
theorem NextX.toK {b : Nat} {x : QK} {w w' : World} {d d' : Dm} (h : NextX x b w w' d d') : NextK x b w w' d d' :=
  ⟨h.mem, h.chg, h.muts, h.imms, h.comp, h.stop, h.store, h.bs, h.bsm, h.br, h.ba, fun k v hne hk => ⟨(h.busy k v hk).1, (h.busy k v hk).2 hne⟩⟩
theorem NextK.trans {b : Nat} {x : QK} {w w1 w2 : World} {d d1 d2 : Dm} (h : NextK x b w w1 d d1) (k : NextK x b w1 w2 d1 d2) : NextK x b w w2 d d2 where
  mem := k.mem
  chg := h.chg.comp k.chg h.muts
  muts g hg := (k.muts g hg).elim (h.muts g) fun hs => .inr (Nat.le_trans h.chg.size hs)
  imms g hg := (k.imms g hg).elim (h.imms g) fun hs => .inr (Nat.le_trans h.chg.size hs)
  comp := k.comp.trans h.comp
  stop := k.stop.trans h.stop
  store := k.store.trans h.store
  bs := k.bs.trans h.bs
  bsm := k.bsm.trans h.bsm
  br := k.br.trans h.br
  ba := k.ba.trans h.ba
  busy y v hne hx := by
    obtain ⟨h1, h2⟩ := h.busy y v hne hx
    obtain ⟨k1, k2⟩ := k.busy y v hne h1
    exact ⟨k1, k2.trans h2⟩
theorem NextK.toNext {b : Nat} {x : QK} {w w' : World} {d d' : Dm} (h : NextK x b w w' d d') (hx : aget d.act x = none) : Next b w w' d d' :=
  ⟨h.mem, h.chg, h.muts, h.imms, h.comp, h.stop, h.store, h.bs, h.bsm, h.br, h.ba, fun k v hk => h.busy k v (fun e => by rw [e, hx] at hk; cases hk) hk⟩
theorem Env.nextK {w0 : World} {RO : Nat → Prop} {b : Nat} {x : QK} {w w' : World} {d d' : Dm} (h : Env w0 RO b w d) (k : NextK x b w w' d d') : Env w0 RO b w' d' :=
  ⟨k.mem, fun g hg => by
    obtain ⟨h1, h2, h3⟩ := h.ro g hg
    exact ⟨Nat.lt_of_lt_of_le h1 k.chg.size, (k.chg.block g h1 h3).trans h2, fun hm => (k.muts g hm).elim h3 fun hs => by omega⟩⟩
theorem Dm.parts {d : Dm} {b : Nat} (h : (d.muts b).Nodup) : b ≠ d.bs ∧ b ≠ d.bsm ∧ b ≠ d.br ∧ b ≠ d.ba ∧ d.bs ≠ d.bsm ∧ d.bs ≠ d.br ∧ d.bs ≠ d.ba ∧ d.bsm ≠ d.br ∧ d.bsm ≠ d.ba ∧ d.br ≠ d.ba ∧ (∀ p ∈ d.es, p.2.blk ≠ b ∧ p.2.blk ≠ d.bs ∧ p.2.blk ≠ d.bsm ∧ p.2.blk ≠ d.br ∧ p.2.blk ≠ d.ba) ∧ (d.es.map (·.2.blk)).Nodup := by
  unfold Dm.muts at h
  simp only [List.nodup_cons, List.mem_cons, not_or] at h
  obtain ⟨⟨a1, a2, a3, a4, a5⟩, ⟨b1, b2, b3, b4⟩, ⟨c1, c2, c3⟩, ⟨d1, d2⟩, e1, e2⟩ := h
  refine ⟨a1, a2, a3, a4, b1, b2, b3, c1, c2, d1, fun p hp => ?_, e2⟩
  have hm : p.2.blk ∈ d.es.map (·.2.blk) := List.mem_map.2 ⟨p, hp, rfl⟩
  exact ⟨fun e => a5 (e ▸ hm), fun e => b4 (e ▸ hm), fun e => c3 (e ▸ hm), fun e => d2 (e ▸ hm), fun e => e1 (e ▸ hm)⟩
/-- another list of the keys under way -/
theorem DmAt.setAct {w : World} {b : Nat} {d : Dm} {o : Obj} {L : List (QK × Int)} (h : DmAt w b d) (hm : MapAt Try.prog 27 Inp.qk (setBlock w d.ba o) d.ba (amap (Value.int .i64) L)) : DmAt (setBlock w d.ba o) b { d with act := L } := by
  obtain ⟨p1, p2, p3, p4, p5, p6, p7, p8, p9, p10, p11, _⟩ := Dm.parts h.nodup
  have hc : ChgP (fun g => g = d.ba) w (setBlock w d.ba o) := (ChgP.refl (fun g => g = d.ba) w).setBlock (Or.inl rfl) o
  have hba : d.ba ∈ d.muts b := by simp [Dm.muts]
  have himm : ∀ g ∈ d.imms, (setBlock w d.ba o).heap[g]? = w.heap[g]? := fun g hg => hc.block g (h.bound g hg) fun e => h.apart g hg (e ▸ hba)
  have blk : ∀ g, g < w.heap.size → g ≠ d.ba → (setBlock w d.ba o).heap[g]? = w.heap[g]? := fun g hg hn => hc.block g hg hn
  exact ⟨(blk _ (lt_of_obj h.blk) p4).trans h.blk, ⟨(blk _ (lt_of_obj h.store.blk) p7).trans h.store.blk, h.store.map.of_block (blk _ h.store.map.lt p9), fun p hp => ⟨intsKept' (h.store.vals p hp).1 fun g hg => himm g (Dm.imm_store (d := d) hp hg), (h.store.vals p hp).2⟩⟩, h.text, h.res.of_block (blk _ h.res.lt p10), hm, fun p hp => (h.each p hp).kept (blk _ (h.lt _ (Dm.mut_mem (b := b) hp)) (p11 p hp).2.2.2.2) fun g hg => himm g (Dm.imm_mem (d := d) hp hg), h.nodup, h.apart, fun g hg => Nat.lt_of_lt_of_le (h.bound g hg) hc.size⟩
theorem map_ups_same {es : List (QK × Rs)} {key : QK} {r r' : Rs} (h : aget es key = some r) (e : r'.blk = r.blk) : (ups es key r').map (·.2.blk) = es.map (·.2.blk) := by
  induction es with
  | nil => cases h
  | cons p l ih =>
    rw [aget_cons] at h
    unfold ups
    split at h
    · rename_i hp
      cases h
      rw [if_pos hp, List.map_cons, List.map_cons, e]
    · rename_i hp
      rw [if_neg hp, List.map_cons, List.map_cons, ih h]
theorem mem_ups_ne {es : List (QK × Rs)} {key : QK} {r' : Rs} (hn : (es.map (·.1)).Nodup) {p : QK × Rs} (h : p ∈ ups es key r') : p = (key, r') ∨ (p ∈ es ∧ p.1 ≠ key) := by
  induction es with
  | nil => left; simpa [ups] using h
  | cons q l ih =>
    rw [List.map_cons, List.nodup_cons] at hn
    unfold ups at h
    split at h
    · rename_i e
      rcases List.mem_cons.1 h with h | h
      · exact Or.inl h
      · exact Or.inr ⟨List.mem_cons_of_mem _ h, fun e' => hn.1 (List.mem_map.2 ⟨p, h, e'.trans e.symm⟩)⟩
    · rename_i e
      rcases List.mem_cons.1 h with h | h
      · exact Or.inr ⟨by simp [h], by rw [h]; exact e⟩
      · rcases ih hn.2 h with h | ⟨h, h'⟩
        · exact Or.inl h
        · exact Or.inr ⟨List.mem_cons_of_mem _ h, h'⟩
theorem DmAt.keys {w : World} {b : Nat} {d : Dm} (h : DmAt w b d) : (d.es.map (·.1)).Nodup := by
  have := h.res.nodup
  unfold amap at this
  rwa [List.map_map] at this
theorem blk_inj {es : List (QK × Rs)} (hb : (es.map (·.2.blk)).Nodup) {p q : QK × Rs} (hp : p ∈ es) (hq : q ∈ es) (e : p.2.blk = q.2.blk) : p = q := by
  induction es with
  | nil => cases hp
  | cons x l ih =>
    rw [List.map_cons, List.nodup_cons] at hb
    rcases List.mem_cons.1 hp with h1 | h1 <;> rcases List.mem_cons.1 hq with h2 | h2
    · rw [h1, h2]
    · exact absurd (List.mem_map.2 ⟨q, h2, by rw [← e, h1]⟩) hb.1
    · exact absurd (List.mem_map.2 ⟨p, h1, by rw [e, h2]⟩) hb.1
    · exact ih hb.2 h1 h2
/-- a result's numbers are set, the clock goes on -/
theorem DmAt.touch {w w' : World} {b : Nat} {d : Dm} {key : QK} {r r' : Rs} {n : Int} (h : DmAt w b d) (hr : aget d.es key = some r) (hc : ChgP (fun g => g = r.blk ∨ g = b) w w') (e1 : r'.blk = r.blk) (e2 : r'.imm = r.imm) (hr' : RsAt w' r')
    (hb : w'.heap[b]? = some (.cells #[d.comp, .pointer (some ⟨d.bs, 0, none⟩), .map (some d.br), .map (some d.ba), d.stop, .int .i64 d.cnt, .int .i64 n] 88 (0, 0))) : DmAt w' b { d with es := ups d.es key r', clk := n } := by
  obtain ⟨p1, p2, p3, p4, p5, p6, p7, p8, p9, p10, p11, p12⟩ := Dm.parts h.nodup
  have hm := aget_mem hr
  obtain ⟨q1, q2, q3, q4, q5⟩ := p11 _ hm
  simp only at q1 q2 q3 q4 q5
  have hrm : r.blk ∈ d.muts b := Dm.mut_mem hm
  have hbm : b ∈ d.muts b := by simp [Dm.muts]
  have himm : ∀ g ∈ d.imms, w'.heap[g]? = w.heap[g]? := fun g hg => hc.block g (h.bound g hg) fun e => e.elim (fun e => h.apart g hg (e ▸ hrm)) fun e => h.apart g hg (e ▸ hbm)
  have blk : ∀ g, g < w.heap.size → g ≠ r.blk → g ≠ b → w'.heap[g]? = w.heap[g]? := fun g hg hn hn' => hc.block g hg fun e => e.elim hn hn'
  have hmuts : ({ d with es := ups d.es key r', clk := n } : Dm).muts b = d.muts b := by
    unfold Dm.muts
    simp only
    rw [map_ups_same hr e1]
  have himms : ∀ g ∈ ({ d with es := ups d.es key r', clk := n } : Dm).imms, g ∈ d.imms := fun g hg => by
    rcases List.mem_append.1 hg with hg | hg
    · exact List.mem_append_left _ hg
    · rcases mem_ups_imms hg with hg | hg
      · rw [e2] at hg
        exact Dm.imm_mem hm hg
      · exact List.mem_append_right _ hg
  refine ⟨hb, ⟨(blk _ (lt_of_obj h.store.blk) (Ne.symm q2) (Ne.symm p1)).trans h.store.blk, h.store.map.of_block (blk _ h.store.map.lt (Ne.symm q3) (Ne.symm p2)), fun p hp => ⟨intsKept' (h.store.vals p hp).1 fun g hg => himm g (Dm.imm_store (d := d) hp hg), (h.store.vals p hp).2⟩⟩, h.text, ?_, h.act.of_block (blk _ h.act.lt (Ne.symm q5) (Ne.symm p4)), fun p hp => ?_, by rw [hmuts]; exact h.nodup, fun g hg => by rw [hmuts]; exact h.apart g (himms g hg), fun g hg => Nat.lt_of_lt_of_le (h.bound g (himms g hg)) hc.size⟩
  · have hv : amap Rs.val (ups d.es key r') = amap Rs.val d.es := by
      rw [← ups_amap]
      have : ∀ (es : List (QK × Rs)), aget es key = some r → ups (amap Rs.val es) key (Rs.val r') = amap Rs.val es := by
        intro es
        induction es with
        | nil => intro h; cases h
        | cons p l ih =>
          intro h
          rw [aget_cons] at h
          show ups ((p.1, p.2.val) :: amap Rs.val l) key _ = (p.1, p.2.val) :: amap Rs.val l
          unfold ups
          split at h
          · rename_i hp
            cases h
            rw [if_pos hp]
            simp only [Rs.val, e1, ← hp]
          · rename_i hp
            rw [if_neg hp, ih h]
      exact this _ hr
    show MapAt _ _ _ w' d.br (amap Rs.val (ups d.es key r'))
    rw [hv]
    exact h.res.of_block (blk _ h.res.lt (Ne.symm q4) (Ne.symm p3))
  · rcases mem_ups_ne h.keys hp with rfl | ⟨hp, hne⟩
    · exact hr'
    · have hb1 := (p11 p hp).1
      have hb2 : p.2.blk ≠ r.blk := fun e => hne (congrArg Prod.fst (blk_inj p12 hp hm e))
      exact (h.each p hp).kept (blk _ (h.lt _ (Dm.mut_mem (b := b) hp)) hb2 hb1) fun g hg => himm g (Dm.imm_mem (d := d) hp hg)
end Go.Proofs.Ytdeodcomlakpaaa
