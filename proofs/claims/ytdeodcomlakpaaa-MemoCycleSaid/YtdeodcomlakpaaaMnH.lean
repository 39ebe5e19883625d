/- recompute: what it is given, what it leaves. -/
import Derived.Test.YtdeodcomlakpaaaMnG
namespace Go.Proofs.Ytdeodcomlakpaaa
open Go.RowKit Go.ChangeMaps Go.MapKept
set_option linter.unusedVariables false
set_option linter.unusedSimpArgs false
/-- what compute brings -/
def CPost (I : (Nat → Prop) → GS → World → Prop) (RO : Nat → Prop) (ch : Int → List PanicEntry) (F : Nat → Prop) (res : Except Int (List Int) × GS) (w : World) (e : Ending) (w' : World) : Prop :=
  (match res.1 with
    | .ok xs => ∃ a c, e = .returned (.agg #[.slice a xs.length c, .string ⟨#[]⟩]) ∧ Inp.Ints w' (.slice a xs.length c) xs ∧ xs.length * 8 ≤ 140737488355328
    | .error x => e = .panicked (ch x)) ∧ I F res.2 w' ∧ ChgP (fun b => ¬ F b ∧ ¬ RO b) w w'
/-- a compute function -/
structure CFam (w0 : World) (RO : Nat → Prop) (f : Nat) (caps : Array Value) (C : QK → (GS → QK → Except Int (List Int) × GS) → GS → Except Int (List Int) × GS) (ch : Int → List PanicEntry) (Kc : QK → Prop) (Kk : QK → QK → Prop) : Prop where
  enter : ∀ args w, (callFunc f args).run Try.prog w = .ok (.enter f args) w
  call : ∀ (fn : Nat) (gcaps : Array Value) (I : (Nat → Prop) → GS → World → Prop) (RO' : Nat → Prop) (G : GS → QK → Except Int (List Int) × GS) (F : Nat → Prop) (s : GS) (w : World) (key : QK), VFam fn gcaps I RO' G ch (Kk key) → Kc key → I F s w → (∀ g, RO g → RO' g) → (∀ g, RO g → w.heap[g]? = w0.heap[g]?) →
    Calls Try.prog f (#[i3v key, .func (.func fn) #[] gcaps] ++ caps) w (CPost I RO' ch F (C key G s) w)
/-- a stop function that is no nil -/
structure SFam (w0 : World) (RO : Nat → Prop) (b : Nat) (f : Nat) (first caps : Array Value) (sb : PS → Bool) : Prop where
  enter : ∀ args w, (callFunc f args).run Try.prog w = .ok (.enter f args) w
  call : ∀ w d, Env w0 RO b w d → Calls Try.prog f (first ++ caps) w fun e w' => e = .returned (.bool (sb d.pl)) ∧ Chg [] w w'
/-- the panic's entries -/
def chI (x : Int) : List PanicEntry := [{ v := .iface 110 (.agg #[.int .i64 x]), recovered := false }]
section
variable {w0 : World} {RO : Nat → Prop} {b : Nat} {comp stop : Value} {K : PS → QK → Prop} {Kk : QK → Prop} {U : PS → QK → Except Int Unit × PS} {ch : Int → List PanicEntry} {ws : World} {ds : Dm} {cdb cr rb : Nat} {ver : Int}
theorem enterGet (args : Array Value) (w : World) : (callFunc 107 args).run Try.prog w = .ok (.enter 107 args) w := by go_simp
theorem rget_fam (fam : UFam w0 RO b comp stop K U ch) (hcs : ds.comp = comp ∧ ds.stop = stop) (fin : ∀ l : List QK, l.Nodup → (∀ k ∈ l, Kk k) → l.length ≤ 1000) :
    VFam 107 #[.pointer (some ⟨cdb, 0, none⟩), .pointer (some ⟨cr, 0, none⟩)] (GI w0 RO b K Kk ws ds cdb cr rb ver) (GRO RO cdb cr) (getP U) ch Kk :=
  ⟨enterGet, fun h hc => h.keep hc, fun h hF => h.anti hF, fun h => h.ro, fun F s w k hk hI => rget_any fam hcs fin F s w k hk hI⟩
/-- the result is noted, the count goes on -/
theorem map_ups_blk {es : List (QK × Rs)} {key : QK} {r : Rs} : ∀ g ∈ (ups es key r).map (·.2.blk), g = r.blk ∨ g ∈ es.map (·.2.blk) := by
  intro g hg
  obtain ⟨p, hp, rfl⟩ := List.mem_map.1 hg
  rcases mem_ups hp with rfl | hp
  · exact Or.inl rfl
  · exact Or.inr (List.mem_map.2 ⟨p, hp, rfl⟩)
theorem nodup_ups_blk {es : List (QK × Rs)} {key : QK} {r : Rs} (h : (es.map (·.2.blk)).Nodup) (hr : r.blk ∉ es.map (·.2.blk)) : ((ups es key r).map (·.2.blk)).Nodup := by
  induction es with
  | nil => simp [ups]
  | cons p l ih =>
    rw [List.map_cons, List.nodup_cons] at h
    simp only [List.map_cons, List.mem_cons, not_or] at hr
    unfold ups
    split
    · rw [List.map_cons, List.nodup_cons]
      exact ⟨hr.2, h.2⟩
    · rw [List.map_cons, List.nodup_cons]
      refine ⟨fun hm => ?_, ih h.2 hr.2⟩
      rcases map_ups_blk _ hm with e | e
      · exact hr.1 e.symm
      · exact h.1 e
theorem mem_ups_imms {es : List (QK × Rs)} {key : QK} {r : Rs} {g : Nat} (h : g ∈ (ups es key r).flatMap (fun p => p.2.imm)) : g ∈ r.imm ∨ g ∈ es.flatMap (fun p => p.2.imm) := by
  obtain ⟨p, hp, hg⟩ := List.mem_flatMap.1 h
  rcases mem_ups hp with rfl | hp
  · exact Or.inl hg
  · exact Or.inr (List.mem_flatMap.2 ⟨p, hp, hg⟩)
theorem DmAt.put {w : World} {d : Dm} {key : QK} {r : Rs} {o : Obj} {n : Int} (h : DmAt w b d) (hr : RsAt w r) (h1 : r.blk ∉ d.muts b) (h2 : r.blk ∉ d.imms) (h3 : ∀ g ∈ r.imm, g ∉ d.muts b ∧ g ≠ r.blk ∧ g < w.heap.size)
    (hm : MapAt Try.prog 27 Inp.qk (setBlock w d.br o) d.br (ups (amap Rs.val d.es) key r.val)) : DmAt ((setBlock w d.br o).setCell ⟨b, 5, none⟩ (.int .i64 n)) b { d with es := ups d.es key r, cnt := n } := by
  have hnd := h.nodup
  unfold Dm.muts at hnd
  have hbr : b ≠ d.br := by simp only [List.nodup_cons, List.mem_cons, not_or] at hnd; exact hnd.1.2.2.1
  have hc : ChgP (fun g => g = d.br ∨ g = b) w ((setBlock w d.br o).setCell ⟨b, 5, none⟩ (.int .i64 n)) := ((ChgP.refl (fun g => g = d.br ∨ g = b) w).setBlock (Or.inl (Or.inl rfl)) o).setCell (p := ⟨b, 5, none⟩) (Or.inl (Or.inr rfl)) _
  have hmb : b ∈ d.muts b := by simp [Dm.muts]
  have hmbr : d.br ∈ d.muts b := by simp [Dm.muts]
  have himm : ∀ g ∈ d.imms, ¬ (g = d.br ∨ g = b) := fun g hg e => e.elim (fun e => h.apart g hg (e ▸ hmbr)) fun e => h.apart g hg (e ▸ hmb)
  have hbs : d.bs ≠ d.br ∧ d.bs ≠ b := by simp only [List.nodup_cons, List.mem_cons, not_or] at hnd; exact ⟨hnd.2.1.2.1, fun e => hnd.1.1 e.symm⟩
  have hbsm : d.bsm ≠ d.br ∧ d.bsm ≠ b := by simp only [List.nodup_cons, List.mem_cons, not_or] at hnd; exact ⟨hnd.2.2.1.1, fun e => hnd.1.2.1 e.symm⟩
  have hba : d.ba ≠ d.br ∧ d.ba ≠ b := by simp only [List.nodup_cons, List.mem_cons, not_or] at hnd; exact ⟨fun e => hnd.2.2.2.1.1 e.symm, fun e => hnd.1.2.2.2.1 e.symm⟩
  have hes : ∀ p ∈ d.es, p.2.blk ≠ d.br ∧ p.2.blk ≠ b := by
    intro p hp
    have hm' : p.2.blk ∈ d.es.map (·.2.blk) := List.mem_map.2 ⟨p, hp, rfl⟩
    simp only [List.nodup_cons, List.mem_cons, not_or] at hnd
    exact ⟨fun e => hnd.2.2.2.1.2 (e ▸ hm'), fun e => hnd.1.2.2.2.2 (e ▸ hm')⟩
  have blk : ∀ g, g < w.heap.size → ¬ (g = d.br ∨ g = b) → ((setBlock w d.br o).setCell ⟨b, 5, none⟩ (.int .i64 n)).heap[g]? = w.heap[g]? := fun g hg hn => hc.block g hg hn
  have e1 : (setBlock w d.br o).heap[b]? = w.heap[b]? := ((Chg.refl [d.br] w).setBlock (Or.inl (by simp)) o).block b (lt_of_obj h.blk) (by simpa using hbr)
  refine ⟨?_, ⟨(blk _ (lt_of_obj h.store.blk) (by simp [hbs])).trans h.store.blk, h.store.map.of_block (blk _ h.store.map.lt (by simp [hbsm])), fun p hp => ⟨intsKept' (h.store.vals p hp).1 fun g hg => blk g (h.bound g (Dm.imm_store (d := d) hp hg)) (himm g (Dm.imm_store (d := d) hp hg)), (h.store.vals p hp).2⟩⟩, h.text, ?_, h.act.of_block (blk _ h.act.lt (by simp [hba])), ?_, ?_, ?_, ?_⟩
  · exact (heap_setCell_same (e1.trans h.blk) _).trans rfl
  · show MapAt _ _ _ _ d.br (amap Rs.val (ups d.es key r))
    rw [← ups_amap]
    exact hm.of_block (heap_setCell_ne _ _ _ _ (by exact Ne.symm hbr))
  · intro p hp
    rcases mem_ups hp with rfl | hp
    · refine hr.kept (blk _ (lt_of_obj hr.blk) ?_) fun g hg => blk g (h3 g hg).2.2 ?_
      · rintro (e | e)
        · exact h1 (e ▸ hmbr)
        · exact h1 (e ▸ hmb)
      · rintro (e | e)
        · exact (h3 g hg).1 (e ▸ hmbr)
        · exact (h3 g hg).1 (e ▸ hmb)
    · have hl := h.lt _ (Dm.mut_mem (b := b) hp)
      exact (h.each p hp).kept (blk _ hl (by simp [hes p hp])) fun g hg => blk g (h.bound g (Dm.imm_mem hp hg)) (himm g (Dm.imm_mem hp hg))
  · unfold Dm.muts at h1 ⊢
    simp only [List.mem_cons, not_or] at h1
    simp only [List.nodup_cons, List.mem_cons, not_or] at hnd ⊢
    have hk : ∀ g, g ∉ d.es.map (·.2.blk) → g ≠ r.blk → g ∉ (ups d.es key r).map (·.2.blk) := fun g a b hm => (map_ups_blk g hm).elim b a
    obtain ⟨⟨a1, a2, a3, a4, a5⟩, ⟨b1, b2, b3, b4⟩, ⟨c1, c2, c3⟩, ⟨d1, d2⟩, e1, e2⟩ := hnd
    obtain ⟨r1, r2, r3, r4, r5, r6⟩ := h1
    exact ⟨⟨a1, a2, a3, a4, hk _ a5 (Ne.symm r1)⟩, ⟨b1, b2, b3, hk _ b4 (Ne.symm r2)⟩, ⟨c1, c2, hk _ c3 (Ne.symm r3)⟩, ⟨d1, hk _ d2 (Ne.symm r4)⟩, hk _ e1 (Ne.symm r5), nodup_ups_blk e2 r6⟩
  · intro g hg hm
    have hg' : g ∈ r.imm ∨ g ∈ d.imms := by
      rcases List.mem_append.1 hg with hg | hg
      · exact Or.inr (List.mem_append_left _ hg)
      · exact (mem_ups_imms hg).imp id fun h => List.mem_append_right _ h
    have hm' : g = r.blk ∨ g ∈ d.muts b := by
      unfold Dm.muts at hm ⊢
      simp only [List.mem_cons] at hm ⊢
      rcases hm with e | e | e | e | e | hm
      · simp [e]
      · simp [e]
      · simp [e]
      · simp [e]
      · simp [e]
      · rcases map_ups_blk g hm with e | e
        · exact Or.inl e
        · simp [e]
    rcases hg' with hg' | hg' <;> rcases hm' with hm' | hm'
    · exact (h3 g hg').2.1 hm'
    · exact (h3 g hg').1 hm'
    · exact h2 (hm' ▸ hg')
    · exact h.apart g hg' hm'
  · intro g hg
    have hg' : g ∈ r.imm ∨ g ∈ d.imms := by
      rcases List.mem_append.1 hg with hg | hg
      · exact Or.inr (List.mem_append_left _ hg)
      · exact (mem_ups_imms hg).imp id fun h => List.mem_append_right _ h
    refine Nat.lt_of_lt_of_le ?_ hc.size
    exact hg'.elim (fun h => (h3 g h).2.2) (h.bound g)
/-- behind the value's store -/
theorem GAt.fin {s' : PS} {l : List QK} {u : Int} {w3 : World} {d : Dm} {da : Option Addr} {dcap : Nat} {a : Option Addr} {c : Nat} {xs : List Int} (h : GAt w0 RO b K Kk ws ds cdb cr rb ver (s', l, u) w3 d da dcap) (hi : Inp.Ints w3 (.slice a xs.length c) xs) (hs : xs.length * 8 ≤ 140737488355328)
    (ha : ∀ ad, a = some ad → ad.block ∉ d.muts b ∧ ad.block ≠ rb) (hlt : ∀ g ∈ oblk a, g < w3.heap.size) {w4 : World} (hw4 : w4 = (w3.setCell ⟨rb, 0, none⟩ (.slice a xs.length c)).setCell ⟨rb, 1, none⟩ (.string ⟨#[]⟩)) {r : Rs} (hr : r = ⟨rb, a, c, xs, ver, ver, u, da, dcap, l, 0⟩) :
    Env w0 RO b w4 d ∧ Next b ws w4 ds d ∧ RsAt w4 r ∧ (∀ g ∈ r.imm, g ∉ d.muts b ∧ g ≠ rb ∧ g < w4.heap.size) ∧ rb ∉ d.muts b ∧ rb ∉ d.imms ∧ ws.heap.size ≤ rb ∧ (∀ g ∈ oblk da, ws.heap.size ≤ g) ∧ ChgP (fun g => g = rb) w3 w4 := by
  subst hr
  subst hw4
  have hc : ChgP (fun g => g = rb) w3 ((w3.setCell ⟨rb, 0, none⟩ (.slice a xs.length c)).setCell ⟨rb, 1, none⟩ (.string ⟨#[]⟩)) := ((ChgP.refl (fun g => g = rb) w3).setCell (p := ⟨rb, 0, none⟩) (Or.inl rfl) _).setCell (p := ⟨rb, 1, none⟩) (Or.inl rfl) _
  have hm := h.env.mem.kept hc (fun g hg e => h.ares.1 (e ▸ hg)) (fun g hg e => h.ares.2.1 (e ▸ hg))
  have himm : ∀ g ∈ oblk a ++ oblk da, g ∉ d.muts b ∧ g ≠ rb ∧ g < w3.heap.size := by
    intro g hg
    rcases List.mem_append.1 hg with hg | hg
    · cases a with
      | none => simp [oblk] at hg
      | some ad => simp [oblk] at hg; subst hg; exact ⟨(ha ad rfl).1, (ha ad rfl).2, hlt _ (by simp [oblk])⟩
    · exact ⟨(h.arow g hg).1, (h.arow g hg).2.2.2.2.2.1, h.dalt g hg⟩
  refine ⟨⟨hm, fun g hg => ?_⟩, ⟨hm, h.next.chg.comp hc fun g hg => Or.inr (hg ▸ h.ares.2.2.2.2.2), h.next.muts, h.next.imms, h.next.comp, h.next.stop, h.next.store, h.next.bs, h.next.bsm, h.next.br, h.next.ba, h.next.busy⟩, ⟨(heap_setCell_same (heap_setCell_same h.res _) _).trans rfl, ?_, hs, ?_⟩, fun g hg => ?_, h.ares.1, h.ares.2.1, h.ares.2.2.2.2.2, fun g hg => (h.arow g hg).2.2.2.2.2.2, hc⟩
  · obtain ⟨h1, h2, h3⟩ := h.env.ro g hg
    exact ⟨Nat.lt_of_lt_of_le h1 hc.size, (hc.block g h1 (fun hf => h.ares.2.2.1 (hf ▸ hg))).trans h2, h3⟩
  · exact intsKept' hi fun g hg => hc.block g (hlt g hg) (himm g (List.mem_append_left _ hg)).2.1
  · refine i3sKept' (SlR.imp (i3s_of_own h.row) (fun _ _ => trivial) fun _ _ _ h => h) fun g hg => hc.block g (h.dalt g hg) (himm g (List.mem_append_right _ hg)).2.1
  · exact ⟨(himm g hg).1, (himm g hg).2.1, Nat.lt_of_lt_of_le (himm g hg).2.2 hc.size⟩
/-- the change's revision is set -/
theorem RsAt.setChg {w : World} {r : Rs} (h : RsAt w r) (n : Int) (hi : ∀ g ∈ r.imm, g ≠ r.blk) : RsAt (w.setCell ⟨r.blk, 3, none⟩ (.int .i64 n)) { r with chg := n } :=
  ⟨(heap_setCell_same h.blk _).trans rfl, intsKept' h.nums fun g hg => heap_setCell_ne _ _ _ _ (hi g (List.mem_append_left _ hg)), h.size, i3sKept' h.deps fun g hg => heap_setCell_ne _ _ _ _ (hi g (List.mem_append_right _ hg))⟩
end
end Go.Proofs.Ytdeodcomlakpaaa
