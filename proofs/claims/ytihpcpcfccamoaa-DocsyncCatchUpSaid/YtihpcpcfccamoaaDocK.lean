/- What Edit does to a room, plainly. -/
import Derived.Test.YtihpcpcfccamoaaDocJ
namespace Go.Proofs.Ytihpcpcfccamoaa
open Go.RowKit
set_option linter.unusedVariables false
set_option linter.unusedSimpArgs false
variable {B : Nat} {P q : Nat → Prop} {w w2 : World} {rb db dc pb : Nat} {dcs : Array Value} {cv hv rv : Value} {hvs : List Value} {nm : ByteArray} {cl : List Int} {ver : Int} {text : ByteArray} {hist : List (List Edit)} {rd : List Int}
theorem Eds.wider {p q : Nat → Prop} {w : World} {v : Value} {E : List Edit} (h : Eds p w v E) (hp : ∀ g, p g → q g) : Eds q w v E := SlR.imp h hp fun _ _ _ h => h
/-- the document is another -/
theorem RoomX.putDoc (h : RoomX B P q w rb db dc pb dcs cv hv rv hvs nm cl ver text hist rd) (ver' : Int) (text' : ByteArray) :
    RoomX B P q (((w.setCell ⟨pb, 0, none⟩ (.string nm)).setCell ⟨pb, 1, none⟩ (.int .i64 ver')).setCell ⟨pb, 2, none⟩ (.string text')) rb db dc pb dcs cv hv rv hvs nm cl ver' text' hist rd := by
  have hc : ChgP (fun k => k = pb) w (((w.setCell ⟨pb, 0, none⟩ (.string nm)).setCell ⟨pb, 1, none⟩ (.int .i64 ver')).setCell ⟨pb, 2, none⟩ (.string text')) :=
    (((ChgP.refl (fun k => k = pb) w).setCell (p := ⟨pb, 0, none⟩) (Or.inl rfl) _).setCell (p := ⟨pb, 1, none⟩) (Or.inl rfl) _).setCell (p := ⟨pb, 2, none⟩) (Or.inl rfl) _
  refine ⟨?_, h.dcap, ?_, h.doc0, ?_, ?_, ?_, ?_, h.hlen, ?_, h.foot, h.qP, h.qn, ?_, h.cr⟩
  · exact (hc.block _ (lt_of_obj h.room) (obj_ne h.room h.doc (by decide))).trans h.room
  · exact (hc.block _ (lt_of_obj h.docs) (obj_ne h.docs h.doc (by decide))).trans h.docs
  · exact heap_setCell_same (heap_setCell_same (heap_setCell_same h.doc _) _) _
  · exact ownsRow_kept h.cls fun g hg hl => hc.block g hl (fun e => own_ne h.cls h.doc (by decide) (by rw [hg, e]))
  · exact ownsRow_kept h.rds fun g hg hl => hc.block g hl (fun e => own_ne h.rds h.doc (by decide) (by rw [hg, e]))
  · exact ownsRow_kept h.his fun g hg hl => hc.block g hl (fun e => own_ne h.his h.doc (by decide) (by rw [hg, e]))
  · exact fun j hj => (h.heds j hj).kept hc fun k hk e => h.qn k hk (Or.inr (Or.inr (Or.inl e)))
  · intro k hk
    have := h.pB k hk
    have hs := hc.size
    omega
/-- the history is longer -/
theorem RoomX.putHist (h : RoomX B P q w rb db dc pb dcs cv hv rv hvs nm cl ver text hist rd) {wB w4 : World} {u v' : Value} {E : List Edit} (hcB : Chg [] w wB) (hu : Eds (fun g => w.heap.size ≤ g ∧ g < wB.heap.size) wB u E)
    (hc4 : ChgP (fun k => hv.ownBlock = some k) wB w4) (hown : w4.ownsRow B 42 1 v' (hist.length + 1) (hvs ++ [u])) (hg : ∀ k, v'.ownBlock = some k → hv.ownBlock = some k ∨ wB.heap.size ≤ k) :
    RoomX B (fun k => P k ∨ (w.heap.size ≤ k ∧ k < w4.heap.size)) (fun k => q k ∨ (w.heap.size ≤ k ∧ k < wB.heap.size)) (w4.setCell ⟨pb, 3, none⟩ v') rb db dc pb dcs cv v' rv (hvs ++ [u]) nm cl ver text (hist ++ [E]) rd := by
  have hB : B ≤ w.heap.size := by have := h.pB rb (h.foot _ (Or.inl rfl)); omega
  obtain ⟨l1, l2, l3⟩ := h.lts
  have hsB := hcB.size
  have hs4 := hc4.size
  have hX := h.same hcB
  have hpb : w4.heap[pb]? = wB.heap[pb]? := hc4.block _ (by omega) (own_ne hX.his hX.doc (by decide))
  have hall : ChgP (fun k => k = pb ∨ hv.ownBlock = some k) wB (w4.setCell ⟨pb, 3, none⟩ v') := (hc4.mono (T := fun k => k = pb ∨ hv.ownBlock = some k) fun _ h => Or.inr h).setCell (p := ⟨pb, 3, none⟩) (Or.inl (Or.inl rfl)) _
  have hset : ChgP (fun k => k = pb) w4 (w4.setCell ⟨pb, 3, none⟩ v') := (ChgP.refl (fun k => k = pb) w4).setCell (p := ⟨pb, 3, none⟩) (Or.inl rfl) _
  have hv'pb : v'.ownBlock ≠ some pb := fun e => (hg pb e).elim (fun e => own_ne hX.his hX.doc (by decide) e) (fun e => by omega)
  have hqf : ∀ k, q k ∨ (w.heap.size ≤ k ∧ k < wB.heap.size) → ¬ (k = pb ∨ hv.ownBlock = some k) := by
    rintro k (hk | hk) (e | e)
    · exact h.qn k hk (Or.inr (Or.inr (Or.inl e)))
    · exact h.qn k hk (Or.inr (Or.inr (Or.inr (Or.inr (Or.inl e)))))
    · omega
    · have := (h.his.lt k e).2; omega
  refine ⟨?_, h.dcap, ?_, h.doc0, ?_, ?_, ?_, ?_, ?_, ?_, ?_, ?_, ?_, ?_, h.cr⟩
  · exact (hall.block _ (by omega) (fun e => e.elim (obj_ne hX.room hX.doc (by decide)) (own_ne hX.his hX.room (by decide)))).trans hX.room
  · exact (hall.block _ (by omega) (fun e => e.elim (obj_ne hX.docs hX.doc (by decide)) (own_ne hX.his hX.docs (by decide)))).trans hX.docs
  · exact heap_setCell_same (hpb.trans hX.doc) v'
  · exact ownsRow_kept hX.cls fun g hg' hl => hall.block g hl (fun e => e.elim (fun e => own_ne hX.cls hX.doc (by decide) (by rw [hg', e])) (fun e => by
      obtain ⟨cur, hcur⟩ := own_at hX.his e
      exact own_ne hX.cls hcur (by decide) hg'))
  · exact ownsRow_kept hX.rds fun g hg' hl => hall.block g hl (fun e => e.elim (fun e => own_ne hX.rds hX.doc (by decide) (by rw [hg', e])) (fun e => by
      obtain ⟨cur, hcur⟩ := own_at hX.his e
      exact own_ne hX.rds hcur (by decide) hg'))
  · rw [List.length_append]
    exact ownsRow_kept hown fun g hg' hl => hset.block g hl (fun e => hv'pb (by rw [hg', e]))
  · simp [h.hlen]
  · intro j hj
    rw [List.length_append, List.length_singleton] at hj
    by_cases hj' : j < hist.length
    · have e1 : (hvs ++ [u]).getD j undef = hvs.getD j undef := by
        have : j < hvs.length := by rw [h.hlen]; exact hj'
        rw [List.getD_eq_getElem?_getD, List.getD_eq_getElem?_getD, List.getElem?_append_left this]
      have e2 : (hist ++ [E]).getD j [] = hist.getD j [] := by rw [List.getD_eq_getElem?_getD, List.getD_eq_getElem?_getD, List.getElem?_append_left hj']
      rw [e1, e2]
      exact ((hX.heds j hj').wider (q := fun k => q k ∨ (w.heap.size ≤ k ∧ k < wB.heap.size)) (fun _ h => Or.inl h)).kept hall hqf
    · obtain rfl : j = hist.length := by omega
      have e1 : (hvs ++ [u]).getD hist.length undef = u := by rw [← h.hlen]; simp
      have e2 : (hist ++ [E]).getD hist.length [] = E := by simp
      rw [e1, e2]
      exact (hu.wider (q := fun k => q k ∨ (w.heap.size ≤ k ∧ k < wB.heap.size)) (fun _ h => Or.inr h)).kept hall hqf
  · rintro k (e | e | e | e | e | e)
    · exact Or.inl (h.foot k (Or.inl e))
    · exact Or.inl (h.foot k (Or.inr (Or.inl e)))
    · exact Or.inl (h.foot k (Or.inr (Or.inr (Or.inl e))))
    · exact Or.inl (h.foot k (Or.inr (Or.inr (Or.inr (Or.inl e)))))
    · exact (hg k e).elim (fun e => Or.inl (h.foot k (Or.inr (Or.inr (Or.inr (Or.inr (Or.inl e))))))) (fun e' => Or.inr ⟨by omega, (hown.lt k e).2⟩)
    · exact Or.inl (h.foot k (Or.inr (Or.inr (Or.inr (Or.inr (Or.inr e))))))
  · rintro k (hk | hk)
    · exact Or.inl (h.qP k hk)
    · exact Or.inr (by omega)
  · intro k hk hf
    rcases hf with e | e | e | e | e | e
    · rcases hk with hk | hk
      · exact h.qn k hk (Or.inl e)
      · omega
    · rcases hk with hk | hk
      · exact h.qn k hk (Or.inr (Or.inl e))
      · omega
    · exact hqf k hk (Or.inl e)
    · rcases hk with hk | hk
      · exact h.qn k hk (Or.inr (Or.inr (Or.inr (Or.inl e))))
      · have := (h.cls.lt k e).2; omega
    · rcases hg k e with e | e
      · exact hqf k hk (Or.inr e)
      · rcases hk with hk | hk
        · have := (h.pB k (h.qP k hk)).2; omega
        · omega
    · rcases hk with hk | hk
      · exact h.qn k hk (Or.inr (Or.inr (Or.inr (Or.inr (Or.inr e)))))
      · have := (h.rds.lt k e).2; omega
  · intro k hk
    have hz : (w4.setCell ⟨pb, 3, none⟩ v').heap.size = w4.heap.size := by simp [World.setCell]
    rw [hz]
    rcases hk with hk | hk
    · have := h.pB k hk; omega
    · omega
/-- the history is stored once more -/
theorem RoomX.again (h : RoomX B P q w rb db dc pb dcs cv hv rv hvs nm cl ver text hist rd) : Chg [] w (w.setCell ⟨pb, 3, none⟩ hv) := by
  refine ⟨rfl, rfl, rfl, by simp [World.setCell], fun k hk _ => ?_⟩
  by_cases e : k = pb
  · subst e
    exact (heap_setCell_same h.doc hv).trans h.doc.symm
  · exact heap_setCell_ne _ _ _ _ e
/-- the updates that Edit hands back: those to the clients tos, from a client -/
def rdU (p : Nat → Prop) (nm : ByteArray) (from_ ver : Int) (E : List Edit) (w : World) (ad : Addr) (t : Int) : Prop :=
  w.cell? ad = some (.int .i64 t) ∧ w.cell? ⟨ad.block, ad.off + 1, none⟩ = some (.int .i64 from_) ∧ w.cell? ⟨ad.block, ad.off + 2, none⟩ = some (.string nm) ∧ w.cell? ⟨ad.block, ad.off + 3, none⟩ = some (.int .i64 ver) ∧
    ∃ u, w.cell? ⟨ad.block, ad.off + 4, none⟩ = some u ∧ Eds p w u E
def Ups (p : Nat → Prop) (nm : ByteArray) (from_ ver : Int) (E : List Edit) (w : World) (v : Value) (tos : List Int) : Prop := SlR p 5 (rdU p nm from_ ver E) w v tos
theorem Ups.kept {p S : Nat → Prop} {nm : ByteArray} {from_ ver : Int} {E : List Edit} {w w' : World} {v : Value} {tos : List Int} (h : Ups p nm from_ ver E w v tos) (hc : ChgP S w w') (hS : ∀ k, p k → ¬ S k) : Ups p nm from_ ver E w' v tos :=
  SlR.imp h (fun _ hg => hg) fun ad x hg ⟨a0, a1, a2, a3, u, a4, hu⟩ => by
    have hl := lt_of_cell a0
    have hn := hS _ hg
    exact ⟨(hc.cell hl hn).trans a0, (hc.cell (p := ⟨ad.block, ad.off + 1, none⟩) hl hn).trans a1, (hc.cell (p := ⟨ad.block, ad.off + 2, none⟩) hl hn).trans a2, (hc.cell (p := ⟨ad.block, ad.off + 3, none⟩) hl hn).trans a3, u,
      (hc.cell (p := ⟨ad.block, ad.off + 4, none⟩) hl hn).trans a4, hu.kept hc hS⟩
end Go.Proofs.Ytihpcpcfccamoaa
