/- wordindex: Build. -/
import Derived.Test.YticfigfipbcmhaaGreatDoorWiF
namespace Go.Proofs.YticfigfipbcmhaaGreatDoor
open Go.RowKit Go.ChangeMaps Go.MapKept Go.Shelf Go.Lib Go.Sort
set_option linter.unusedVariables false
set_option linter.unusedSimpArgs false
theorem OwnEn.bound {w : World} {B : Nat} {a : Option Addr} {l : List Ent} {n cap : Nat} (h : OwnEn w B (.slice a n cap) l) : n = l.length ∧ l.length ≤ cap ∧ cap ≤ maxLen := by
  rcases h.2 with ⟨hv, hx⟩ | ⟨g, cap', cur', hv, hge, hh, h3, h4, h5, h6⟩
  · cases hv
    exact ⟨hx.symm, by omega, Nat.zero_le _⟩
  · cases hv
    exact ⟨rfl, by omega, by omega⟩
theorem holds_ents {w : World} {B blk cap : Nat} {l : List Ent} (h : OwnEn w B (.slice (some ⟨blk, 0, none⟩) l.length cap) l) : HoldsK encE 3 w blk 0 l.toArray := by
  intro t ht
  rw [size_flatK] at ht
  have hq : t / 3 < l.length := by simp at ht; omega
  have hfr : w.frozen? ⟨blk, 0 + t, none⟩ = false := by
    rcases h.2 with ⟨e, _⟩ | ⟨g', cap', cur', hv, _, hh, _⟩
    · cases e
    · cases hv; exact frozen_of_heap hh
  refine ⟨?_, hfr⟩
  rw [get_flatK _ _ _ _ ht]
  have f := enCells_get l (t / 3) hq (t % 3) (Nat.mod_lt _ (by decide))
  rw [show t / 3 * 3 + t % 3 = t by omega] at f
  have hk : l.toArray[t / 3]! = l[t / 3] := by rw [getElem!_pos _ _ (by simpa using hq)]; simp
  have hl : t % 3 < (encE l[t / 3]).length := Nat.mod_lt _ (by decide)
  have hv : (encE l[t / 3])[t % 3]! = (encE l[t / 3])[t % 3]'hl := getElem!_pos (encE l[t / 3]) (t % 3) hl
  rw [hk]
  rw [List.getElem?_eq_getElem hl] at f
  have hc := World.ownsRow.cells h (g := blk) rfl _ _ f
  rw [Addr.add_lit] at hc
  show w.cell? _ = some (encE l[t / 3])[t % 3]!
  rw [hv]
  exact hc

/-! ### an index, read -/
/-- name, checksum, words -/
abbrev Ie := ByteArray × Int × List ByteArray
def ie0 : Ie := (⟨#[]⟩, 0, [])
def rdIe (q : Nat → Prop) (w : World) (ad : Addr) (x : Ie) : Prop := w.cell? ad = some (.string x.1) ∧ w.cell? ⟨ad.block, ad.off + 1, none⟩ = some (.int .u32 x.2.1) ∧ ∃ u, w.cell? ⟨ad.block, ad.off + 2, none⟩ = some u ∧ StrsP q w u x.2.2
def IxP (p q : Nat → Prop) (w : World) (v : Value) (I : List Ie) : Prop := SlR p 3 (rdIe q) w v I
theorem rdIe.kept {S : Nat → Prop} {q : Nat → Prop} {w w' : World} {ad : Addr} {x : Ie} (hx : rdIe q w ad x) (hc : ChgP S w w') (hS : ¬ S ad.block) (hQ : ∀ k, q k → ¬ S k) : rdIe q w' ad x := by
  have l := lt_of_cell hx.1
  obtain ⟨h0, h1, u, h2, h3⟩ := hx
  exact ⟨(hc.cell l hS).trans h0, (hc.cell (p := ⟨ad.block, ad.off + 1, none⟩) l hS).trans h1, u, (hc.cell (p := ⟨ad.block, ad.off + 2, none⟩) l hS).trans h2, h3.kept hc hQ⟩
theorem IxP.kept {p q : Nat → Prop} {S : Nat → Prop} {w w' : World} {v : Value} {I : List Ie} (h : IxP p q w v I) (hc : ChgP S w w') (hS : ∀ k, p k → ¬ S k) (hQ : ∀ k, q k → ¬ S k) : IxP p q w' v I :=
  SlR.imp h (fun _ h => h) fun ad x hp hx => hx.kept hc (hS _ hp) hQ
theorem IxP.same {p q : Nat → Prop} {w w' : World} {v : Value} {I : List Ie} (h : IxP p q w v I) (hc : Chg [] w w') : IxP p q w' v I := h.kept (hc.p (S := fun _ => False)) (fun _ _ h => h) (fun _ _ h => h)
theorem IxP.imp {p q p' q' : Nat → Prop} {w : World} {v : Value} {I : List Ie} (h : IxP p q w v I) (hp : ∀ g, p g → p' g) (hq : ∀ g, q g → q' g) : IxP p' q' w v I :=
  SlR.imp h hp fun ad x _ ⟨h0, h1, u, h2, h3⟩ => ⟨h0, h1, u, h2, h3.imp hq⟩
theorem IxP.shape {p q : Nat → Prop} {w : World} {v : Value} {I : List Ie} (h : IxP p q w v I) : ∃ a cap, v = .slice a I.length cap ∧ I.length ≤ maxLen ∧ I.length ≤ cap := SlR.shape h
theorem IxP.cells {p q : Nat → Prop} {w : World} {a : Option Addr} {n cap : Nat} {I : List Ie} (h : IxP p q w (.slice a n cap) I) (i : Nat) (hi : i < I.length) :
    ∃ g off, a = some ⟨g, off, none⟩ ∧ p g ∧ w.cell? ⟨g, off + i * 3, none⟩ = some (.string (I.getD i ie0).1) ∧ w.cell? ⟨g, off + i * 3 + 1, none⟩ = some (.int .u32 (I.getD i ie0).2.1) ∧ ∃ ua uc, w.cell? ⟨g, off + i * 3 + 2, none⟩ = some (.slice ua (I.getD i ie0).2.2.length uc) ∧ StrsP q w (.slice ua (I.getD i ie0).2.2.length uc) (I.getD i ie0).2.2 := by
  obtain ⟨g, off, rfl, hp, h1, h2, u, h3, h4⟩ := SlR.at h i hi ie0
  obtain ⟨ua, uc, rfl, _⟩ := h4.shape
  exact ⟨g, off, rfl, hp, h1, h2, ua, uc, h3, h4⟩

/-! ### the index of documents -/
def entO (d : Dc) : Ie := (d.1, (ck d.2.2.data.toList : Nat), words d.2.2)
def ltN (a b : ByteArray) : Prop := Lib.compareBytes (bl a) (bl b) < 0
structure IsIdx (D : List Dc) (I : List Ie) : Prop where
  perm : I.Perm (D.map entO)
  lt : I.Pairwise fun a b => ltN a.1 b.1
def dOf (D : List Dc) (nm : ByteArray) : Dc := (D.find? fun d => decide (d.1 = nm)).getD dc0
theorem dOf_eq {D : List Dc} (hn : (D.map (·.1)).Nodup) {d : Dc} (hd : d ∈ D) : dOf D d.1 = d := by
  induction D with
  | nil => cases hd
  | cons x r ih =>
    rw [List.map_cons, List.nodup_cons] at hn
    unfold dOf
    rw [List.find?_cons]
    by_cases e : x.1 = d.1
    · rw [decide_eq_true e]
      rcases List.mem_cons.1 hd with h | h
      · rw [h]; rfl
      · exact absurd (List.mem_map.2 ⟨d, h, e.symm⟩) hn.1
    · rw [decide_eq_false e]
      rcases List.mem_cons.1 hd with h | h
      · exact absurd (by rw [h]) e
      · exact ih hn.2 h
/-- what an entry in memory holds -/
def EnOk (D : List Dc) (p : Nat → Prop) (w : World) (e : Ent) : Prop := ∃ d ∈ D, e.nm = d.1 ∧ e.sum = (ck d.2.2.data.toList : Nat) ∧ StrsP p w e.wv (words d.2.2)
theorem EnOk.mono {D : List Dc} {p q : Nat → Prop} {S : Nat → Prop} {w w' : World} {e : Ent} (h : EnOk D p w e) (hc : ChgP S w w') (hS : ∀ g, p g → ¬ S g) (hq : ∀ g, p g → q g) : EnOk D q w' e := by
  obtain ⟨d, h1, h2, h3, h4⟩ := h
  exact ⟨d, h1, h2, h3, (h4.kept hc hS).imp hq⟩
theorem ents_read {D : List Dc} {p : Nat → Prop} {w : World} {blk cap : Nat} {a : Array Ent} (hn : (D.map (·.1)).Nodup) (h : HoldsK encE 3 w blk 0 a) (hp : p blk) (h1 : a.size ≤ cap) (h2 : cap ≤ maxLen) (ho : ∀ e ∈ a.toList, EnOk D p w e) : IxP p p w (.slice (some ⟨blk, 0, none⟩) a.size cap) (a.toList.map fun e => entO (dOf D e.nm)) := by
  refine ⟨_, cap, by simp, by simpa using h1, by simpa using h2, fun _ => ⟨blk, 0, rfl, hp, fun i hi => ?_⟩⟩
  have hi' : i < a.size := by simpa using hi
  have c0 := (h.cell (i := i) (c := 0) hi' (by decide)).1
  have c1 := (h.cell (i := i) (c := 1) hi' (by decide)).1
  have c2 := (h.cell (i := i) (c := 2) hi' (by decide)).1
  have e : a[i]! = a.toList[i] := by rw [getElem!_pos a i hi']; simp
  rw [e] at c0 c1 c2
  rw [List.getElem_map]
  obtain ⟨d, hd, g1, g2, g3⟩ := ho _ (List.getElem_mem (h := by simpa using hi'))
  have hdo : dOf D (a.toList[i]).nm = d := by rw [g1]; exact dOf_eq hn hd
  rw [hdo]
  refine ⟨?_, ?_, _, c2, g3⟩
  · exact c0.trans (congrArg (fun x => some (Value.string x)) g1)
  · exact c1.trans (congrArg (fun x => some (Value.int .u32 x)) g2)
theorem isIdx_of {D : List Dc} {es es' : List Ent} (hn : (D.map (·.1)).Nodup) (hm : es.map (·.nm) = D.map (·.1)) (hp : es'.Perm es) (ho : ∀ e ∈ es', ∃ d ∈ D, e.nm = d.1) (hs : ∀ i j (hi : i < es'.length) (hj : j < es'.length), i < j → ¬ cfE es'[j] es'[i] < 0) : IsIdx D (es'.map fun e => entO (dOf D e.nm)) := by
  have hnn : (es'.map (·.nm)).Nodup := by
    have := hp.map (·.nm)
    rw [this.nodup_iff, hm]
    exact hn
  refine ⟨?_, ?_⟩
  · have h1 := hp.map fun e => entO (dOf D e.nm)
    have h2 : (es.map fun e => entO (dOf D e.nm)) = (D.map (·.1)).map fun n => entO (dOf D n) := by rw [← hm, List.map_map]; rfl
    have h3 : ((D.map (·.1)).map fun n => entO (dOf D n)) = D.map entO := by
      rw [List.map_map]
      exact List.map_congr_left fun d hd => by show entO (dOf D d.1) = entO d; rw [dOf_eq hn hd]
    rw [h2, h3] at h1
    exact h1
  · rw [List.pairwise_map, List.pairwise_iff_getElem]
    intro i j hi hj hij
    obtain ⟨d1, hd1, e1⟩ := ho _ (List.getElem_mem hi)
    obtain ⟨d2, hd2, e2⟩ := ho _ (List.getElem_mem hj)
    have f1 : (entO (dOf D es'[i].nm)).1 = es'[i].nm := by rw [e1, dOf_eq hn hd1]; rfl
    have f2 : (entO (dOf D es'[j].nm)).1 = es'[j].nm := by rw [e2, dOf_eq hn hd2]; rfl
    rw [f1, f2]
    have hne : es'[i].nm ≠ es'[j].nm := fun e => by
      have h1 : i < (es'.map (·.nm)).length := by simpa using hi
      have h2 : j < (es'.map (·.nm)).length := by simpa using hj
      have := (List.getElem_inj (h₀ := h1) (h₁ := h2) hnn).1 (by simpa using e)
      omega
    have h := hs i j hi hj hij
    unfold cfE at h
    unfold ltN
    have n1 := cb_neg (bl es'[i].nm) (bl es'[j].nm)
    have n2 : Lib.compareBytes (bl es'[i].nm) (bl es'[j].nm) ≠ 0 := fun e => hne (bl_inj ((cb_eq _ _).1 e))
    unfold bl at *
    omega
set_option maxHeartbeats 1000000 in
theorem sortIdx_any (w w0 : World) (D : List Dc) (v : Value) (es : List Ent) (h : OwnEn w w0.heap.size v es) (hl : es.length ≤ 1000) (hn : (D.map (·.1)).Nodup) (hm : es.map (·.nm) = D.map (·.1))
    (ho : ∀ e ∈ es, EnOk D (fun g => v.ownBlock ≠ some g ∧ w0.heap.size ≤ g ∧ g < w.heap.size) w e) :
    Calls Tryz.prog 17 #[v, .func (.func 18) #[] #[]] w fun e w' =>
      e = .returned (.tuple #[]) ∧ ∃ I, IsIdx D I ∧ IxP (fun g => w0.heap.size ≤ g ∧ g < w'.heap.size) (fun g => w0.heap.size ≤ g ∧ g < w'.heap.size) w' v I ∧ Chg v.ownBlock.toList w w' := by
  obtain ⟨a, cap, rfl⟩ := ownsRow_shape h
  by_cases h0 : es = []
  · subst h0
    refine (AnyF.slices_SortFunc_none (P := Tryz.prog) (ρ := Tryz.laysSlF06_f22_ren) { Tryz.laysSlF06_f22 with } a cap _ _).mono ?_
    rintro e w' ⟨rfl, rfl⟩
    have hD : D = [] := by simpa using hm.symm
    subst hD
    exact ⟨rfl, [], ⟨List.Perm.refl _, List.Pairwise.nil⟩, ⟨a, cap, rfl, Nat.zero_le _, (OwnEn.bound h).2.2, fun hx => absurd hx (by simp)⟩, Chg.refl _ _⟩
  · have hpos : 0 < es.length := List.length_pos_iff.2 h0
    obtain ⟨_, b1, b2⟩ := OwnEn.bound h
    obtain ⟨blk, c, hv, hge, hlt⟩ := World.ownsRow.form h hpos
    simp only [Value.slice.injEq, true_and] at hv
    obtain ⟨rfl, rfl⟩ := hv
    have hs := sortEnts_any (cap := cap) es.toArray (holds_ents h) hlt (by simp; omega)
    simp only [List.size_toArray] at hs
    refine hs.mono ?_
    rintro e w' ⟨rfl, a', hsz, hp, hso, hH, hc⟩
    have hp' : a'.toList.Perm es := by simpa using hp
    have hmem : ∀ e ∈ a'.toList, e ∈ es := fun e he => hp'.mem_iff.1 he
    refine ⟨rfl, a'.toList.map fun e => entO (dOf D e.nm), isIdx_of hn hm hp' (fun e he => ?_) (fun i j hi hj hij => ?_), ?_, by simpa [Value.ownBlock] using hc⟩
    · obtain ⟨d, h1, h2, _⟩ := ho e (hmem e he)
      exact ⟨d, h1, h2⟩
    · have hi' : i < a'.size := by simpa using hi
      have hj' : j < a'.size := by simpa using hj
      have := hso i j hij (by omega)
      rw [getElem!_pos a' i hi', getElem!_pos a' j hj'] at this
      simpa using this
    · rw [← hsz]
      have := hc.size
      refine ents_read hn hH ⟨hge, by omega⟩ (by omega) b2 fun e he => (ho e (hmem e he)).mono hc.toP (fun g hg hm => ?_) (fun g hg => ⟨hg.2.1, by have := hg.2.2; omega⟩)
      rw [List.mem_singleton] at hm
      exact hg.1 (by rw [hm]; rfl)
set_option maxRecDepth 100000 in
set_option maxHeartbeats 4000000 in
theorem build_any (p : Nat → Prop) (w : World) (v : Value) (D : List Dc) (h : DcP p w v D) (hok : DcOk D) :
    Calls Tryz.prog 6 #[v] w fun e w' => ∃ u I, e = .returned (.tuple #[u, .int .i64 0]) ∧ IsIdx D I ∧ IxP (fun g => w.heap.size ≤ g ∧ g < w'.heap.size) (fun g => w.heap.size ≤ g ∧ g < w'.heap.size) w' u I ∧ Chg [] w w' := by
  obtain ⟨a, cap, rfl, hml, hcp⟩ := SlR.shape h
  have H := Lib.hid h
  have Hok := Lib.hid hok
  have hD20 := hok.len
  unfold maxLen at hml
  clear h hok
  go_enter Tryz.func6, Tryz.ntmps6
  go_wp2_with fail
  refine (validDocs_any p w _ D H.out Hok.out).mono ?_
  rintro e w1 ⟨rfl, hc1⟩
  have H1 := Lib.hid hc1
  clear hc1
  go_wp2_with fail
  go_loopw [5, 15] (fun v5 i wr => ∃ (n : Nat) (es : List Ent) (a5 : Option Addr) (c5 : Nat), n ≤ D.length ∧ i = .int .i64 (n : Nat) ∧ v5 = .slice a5 es.length c5 ∧ Hid (es.length = n) ∧ Hid (OwnEn wr w.heap.size v5 es ∧ Chg [] w wr) ∧ Hid (es.map (·.nm) = (D.take n).map (·.1) ∧ ∀ e ∈ es, EnOk D (fun g => v5.ownBlock ≠ some g ∧ w.heap.size ≤ g ∧ g < wr.heap.size) wr e)) (fun _ i _ => D.length - (intOf i).toNat)
  case atStart => exact ⟨0, [], none, 0, by omega, rfl, rfl, Lib.hid rfl, Lib.hid ⟨OwnEn.nil _ _, H1.out⟩, Lib.hid ⟨by simp, fun _ h => absurd h (by simp)⟩⟩
  case round =>
    obtain ⟨n, es, a5, c5, hn, rfl, rfl, Hel, HO, HE⟩ := hrel
    have hes : es.length ≤ 1000 := by have := Hel.out; omega
    by_cases hlt : n < D.length
    · obtain ⟨g, off, rfl, _, q0, q1, q2⟩ := (DcP.same H.out HO.out.2).cells n hlt
      obtain ⟨x, hx⟩ : ∃ x, D.getD n dc0 = x := ⟨_, rfl⟩
      have hxm : x ∈ D := by rw [← hx]; exact getD_memb hlt _
      have hxd : D[n] = x := by rw [← hx, List.getD_eq_getElem?_getD, List.getElem?_eq_getElem hlt]; rfl
      have Hxd := Lib.hid hxd
      clear hxd
      rw [hx] at q0 q1 q2
      obtain ⟨x1, x2, x3⟩ := x
      simp only at q0 q1 q2
      have lg := lt_of_cell q0
      have hn1 : (n : Int) < D.length := by omega
      have hn0 : (0 : Int) ≤ (n : Int) := by omega
      have Hx := Lib.hid hxm
      clear hx hxm
      obtain ⟨w2, hw2⟩ : ∃ q, q = wr.alloc (.cells #[.string x1, .int .i64 x2, .string x3] 34) := ⟨_, rfl⟩
      obtain ⟨n2, hn2⟩ : ∃ q, q = wr.heap.size := ⟨_, rfl⟩
      have hc2 : Chg [] wr w2 := by rw [hw2]; exact (Chg.refl [] _).alloc _
      have hb2 : w2.heap[n2]? = some (.cells #[.string x1, .int .i64 x2, .string x3] 34 (0, 0)) := by rw [hw2, hn2]; exact heap_at _ _ _ rfl
      have d0 : w2.cell? ⟨n2, 0, none⟩ = some (.string x1) := cell_of_heap hb2 rfl
      have d1 : w2.cell? ⟨n2, 1, none⟩ = some (.int .i64 x2) := cell_of_heap hb2 rfl
      have d2 : w2.cell? ⟨n2, 2, none⟩ = some (.string x3) := cell_of_heap hb2 rfl
      have ld := lt_of_cell d0
      have HW2 := Lib.hid (And.intro hw2 hn2)
      have Hc2 := Lib.hid hc2
      clear hw2 hn2 hc2 hb2
      have Hne := Lib.hid (newEntry_any x1 x2 x3 w2 (Hok.out.ok _ Hx.out).2.2)
      go_upto_region 8 with (fail)
      rw [← HW2.out.1, ← HW2.out.2]
      go_wp2_with fail
      refine Hne.out.mono ?_
      rintro e w3 ⟨a3, c3, rfl, hs3, hc3⟩
      have ho3 := (HO.out.1.same Hc2.out).same hc3
      have hcw3 := HO.out.2.trans (Hc2.out.trans hc3)
      obtain ⟨en, hen⟩ : ∃ e, e = Ent.mk x1 (ck x3.data.toList : Nat) a3 (words x3).length c3 := ⟨_, rfl⟩
      obtain ⟨w4, hw4⟩ : ∃ q, q = w3.alloc (.cells #[.string x1, .int .u32 (ck x3.data.toList : Nat), .slice a3 (words x3).length c3] 40) := ⟨_, rfl⟩
      obtain ⟨n4, hn4⟩ : ∃ q, q = w3.heap.size := ⟨_, rfl⟩
      have hc4 : Chg [] w3 w4 := by rw [hw4]; exact (Chg.refl [] _).alloc _
      have hb4 : w4.heap[n4]? = some (.cells #[.string en.nm, .int .u32 en.sum, .slice en.wa en.wn en.wc] 40 (0, 0)) := by rw [hw4, hn4, hen]; exact heap_at _ _ _ rfl
      obtain ⟨v7, w7, hr7, ho7, hc7, hb7⟩ := run_append_ent w4 26 w.heap.size _ es en n4 (ho3.same hc4) hb4 hes (hcw3.trans hc4).size
      obtain ⟨a7, c7, rfl⟩ := ownsRow_shape ho7
      have hOl : (es ++ [en]).length = es.length + 1 := by simp
      have hcw7 : Chg [] w w7 := (hcw3.trans hc4).comp hc7 fun g hg => Or.inr ((ho3.same hc4).lt g (by simpa using hg)).1
      have hsz := hcw3.size
      have hs4 := hc4.size
      have hs7 := hc7.size
      have hsw := (HO.out.2.trans Hc2.out).size
      have hs3' := hc3.size
      have hown : ∀ g, (Value.slice a5 es.length c5).ownBlock = some g → g < wr.heap.size := fun g hg => (HO.out.1.lt g hg).2
      have hE7 : ∀ e ∈ es ++ [en], EnOk D (fun g => (Value.slice a7 (es ++ [en]).length c7).ownBlock ≠ some g ∧ w.heap.size ≤ g ∧ g < w7.heap.size) w7 e := by
        intro e he
        rcases List.mem_append.1 he with he | he
        · refine (HE.out.2 e he).mono ((((Hc2.out.trans hc3).trans hc4).toP.mono (T := fun g => (Value.slice a5 es.length c5).ownBlock = some g) (fun _ h => absurd h (by simp))).trans (hc7.toP.mono fun g hg => by simpa using hg)) (fun g hg hm => hg.1 hm) (fun g hg => ⟨fun h7 => ?_, hg.2.1, by have := hg.2.2; have := (Hc2.out.trans hc3).size; omega⟩)
          rcases hb7 g h7 with h | h
          · exact hg.1 h
          · have := hg.2.2; have := (Hc2.out.trans hc3).size; omega
        · rw [List.mem_singleton] at he
          rw [he]
          refine ⟨_, Hx.out, by rw [hen], by rw [hen], (((by rw [hen]; exact hs3 : StrsP _ w3 en.wv (words x3)).kept (hc4.p (S := fun g => (Value.slice a5 es.length c5).ownBlock = some g)) (fun g hg hm => ?_)).kept (hc7.toP.mono (T := fun g => (Value.slice a5 es.length c5).ownBlock = some g) fun g hg => by simpa using hg) (fun g hg hm => ?_)).imp fun g hg => ⟨fun h7 => ?_, ?_, ?_⟩⟩
          · have := hown g hm; have := Hc2.out.size; have := hg.1; omega
          · have := hown g hm; have := Hc2.out.size; have := hg.1; omega
          · rcases hb7 g h7 with h | h
            · have := hown g h; have := Hc2.out.size; have := hg.1; omega
            · have := hg.2; omega
          · have := hg.1; omega
          · have := hg.2; omega
      have H7 := Lib.hid (show OwnEn w7 w.heap.size (.slice a7 (es.length + 1) c7) (es ++ [en]) ∧ Chg [] w w7 from ⟨by rw [← hOl]; exact ho7, hcw7⟩)
      rw [hOl] at hr7 hE7
      have HE7 := Lib.hid hE7
      have Hr7 := Lib.hid hr7
      have Hen := Lib.hid hen
      have HW4 := Lib.hid (And.intro hw4 hn4)
      have HOl := Lib.hid hOl
      clear hen hown hsz hs4 hs7 hsw hs3' ho3 hcw3 hw4 hn4 hc4 hb4 hr7 ho7 hc7 hb7 hOl hcw7 hE7 hs3 hc3
      go_wp2_with (at_builtin; rw [← HW4.out.1, ← HW4.out.2]; refine wpList_append_run rfl _ _ _ rfl _ _ _ _ rfl rfl Hr7.out ?_)
      refine ⟨⟨n + 1, es ++ [en], a7, c7, by omega, by go_num, by rw [HOl.out], Lib.hid (by rw [HOl.out, Hel.out]), H7, Lib.hid ⟨?_, HE7.out⟩⟩, by simp [intOf]; omega⟩
      rw [List.map_append, HE.out.1, List.take_succ_eq_append_getElem hlt, List.map_append, Hxd.out, Hen.out]
      rfl
    · have hn1 : ¬ ((n : Int) < D.length) := by omega
      have hnl : n = D.length := by omega
      go_wp2_with fail
      have hm : es.map (·.nm) = D.map (·.1) := by have := HE.out.1; rwa [hnl, List.take_length] at this
      refine (sortIdx_any wr w D _ es HO.out.1 hes Hok.out.nd hm HE.out.2).mono ?_
      rintro e w9 ⟨rfl, I, hI, hx, hc9⟩
      have H9 := Lib.hid (And.intro hI (And.intro hx hc9))
      clear hI hx hc9
      go_wp2_with fail
      go_ret2
      exact ⟨_, I, rfl, H9.out.1, H9.out.2.1, HO.out.2.comp H9.out.2.2 fun g hg => Or.inr (HO.out.1.lt g (by simpa using hg)).1⟩
end Go.Proofs.YticfigfipbcmhaaGreatDoor
