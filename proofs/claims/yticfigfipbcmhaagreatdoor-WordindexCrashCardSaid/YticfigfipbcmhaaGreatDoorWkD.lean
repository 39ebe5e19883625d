/- WordindexCrash: the record of a name; appending a name; sorting entries beside another row. -/
import Derived.Test.YticfigfipbcmhaaGreatDoorWkC
import Derived.Test.YticfigfipbcmhaaGreatDoorFidx
namespace Go.Proofs.YticfigfipbcmhaaGreatDoor
open Go.RowKit Go.ChangeMaps Go.MapKept Go.Shelf
set_option linter.unusedVariables false
set_option linter.unusedSimpArgs false
def isK (nm : ByteArray) (r : J.Rec) : Bool := decide (r.key = nm)
theorem rest1_any (r : J.Rec) (nm : ByteArray) (ver : Int) (tx : ByteArray) (w : World) (n5 : Nat) (h5 : w.heap[n5]? = some (.cells #[.string nm, .int .i64 ver, .string tx] 34 (0, 0))) :
    Calls Tryz.prog 25 #[.agg #[.string r.key, .string r.val, .bool r.del], .pointer (some ⟨n5, 0, none⟩)] w fun e w' => e = .returned (.bool (isK nm r)) ∧ Chg [] w w' := by
  obtain ⟨w1, hw1⟩ : ∃ q, q = w.alloc (.cells #[.string r.key, .string r.val, .bool r.del] 54) := ⟨_, rfl⟩
  have hc1 : Chg [] w w1 := by rw [hw1]; exact (Chg.refl [] w).alloc _
  have p0 : w1.cell? ⟨n5, 0, none⟩ = some (.string nm) := cell_of_heap ((hc1.block _ (lt_of_obj h5) (by simp)).trans h5) rfl
  have b0 : w1.cell? ⟨w.heap.size, 0, none⟩ = some (.string r.key) := by rw [hw1]; exact cell_of_heap (heap_at _ _ _ rfl) rfl
  have l0 := lt_of_cell p0
  have h2 : (r.key.toList == nm.toList) = isK nm r := beqS _ _
  have Hw1 := Lib.hid hw1
  have Hc1 := Lib.hid hc1
  clear h5 hw1 hc1
  go_enter Tryz.func25, Tryz.ntmps25
  go_upto_region 1 with (fail)
  rw [← Hw1.out]
  go_wp2_with fail
  go_ret
  exact ⟨by first | rfl | simp [h2], Hc1.out⟩
set_option maxHeartbeats 1000000 in
theorem idxRec_any (w : World) (v : Value) (st : List J.Rec) (nm : ByteArray) (ver : Int) (tx : ByteArray) (n5 : Nat) (hk : J.Recs w v st) (h5 : w.heap[n5]? = some (.cells #[.string nm, .int .i64 ver, .string tx] 34 (0, 0))) :
    Calls Tryz.prog 24 #[v, .func (.func 25) #[] #[.pointer (some ⟨n5, 0, none⟩)]] w fun e w' => e = .returned (.int .i64 (fidx (isK nm) st)) ∧ Chg [] w w' := by
  obtain ⟨a, cap, rfl, hm, hc⟩ := J.Recs.shape hk
  have Hk := Lib.hid hk
  have Hf := Lib.hid (fun W (hW : Chg [] w W) (r : J.Rec) => rest1_any r nm ver tx W n5 ((hW.block _ (lt_of_obj h5) (by simp)).trans h5))
  clear hk hc h5
  unfold maxLen at hm
  go_enter Tryz.func24, Tryz.ntmps24
  go_wp2_with fail
  go_loopw [8] (fun i wr => ∃ n : Nat, n ≤ st.length ∧ i = .int .i64 (n : Nat) ∧ Hid (∀ x ∈ st.take n, isK nm x = false) ∧ Hid (Chg [] w wr)) (fun i _ => st.length - (intOf i).toNat)
  case atStart => exact ⟨0, by omega, rfl, Lib.hid (by simp), Lib.hid (Chg.refl _ _)⟩
  case round =>
    obtain ⟨n, hn, rfl, Hno, Hcw⟩ := hrel
    by_cases hlt : n < st.length
    · obtain ⟨a', cap', he, _, hc'⟩ := J.Recs.shape (Hk.out.same Hcw.out)
      obtain ⟨g, off, he2, q0, q1, q2⟩ := hc' n hlt
      simp only [Value.slice.injEq] at he
      obtain ⟨rfl, _, rfl⟩ := he
      subst he2
      obtain ⟨x, hx⟩ : ∃ x, st.getD n J.Rec.zero = x := ⟨_, rfl⟩
      rw [hx] at q0 q1 q2
      have lg := lt_of_cell q0
      have hn1 : (n : Int) < st.length := by omega
      have hn0 : (0 : Int) ≤ (n : Int) := by omega
      obtain ⟨b, hb⟩ : ∃ b, isK nm x = b := ⟨_, rfl⟩
      have hcall := Hf.out wr Hcw.out x
      rw [hb] at hcall
      have Hcall := Lib.hid hcall
      have Hb := Lib.hid (And.intro hx hb)
      clear hx hb hcall hc'
      cases b
      · go_wp2_with fail
        refine Hcall.out.mono ?_
        rintro e w1 ⟨rfl, hc1⟩
        have H1 := Lib.hid (Hcw.out.trans hc1)
        clear hc1 q0 q1 q2 lg
        go_wp2_with fail
        refine ⟨⟨n + 1, by omega, by go_num, Lib.hid ?_, H1⟩, by simp [intOf]; omega⟩
        intro y hy
        rw [fold_take_snoc _ _ hlt J.Rec.zero, List.mem_append, List.mem_singleton] at hy
        rcases hy with hy | hy
        · exact Hno.out y hy
        · rw [hy, Hb.out.1]; exact Hb.out.2
      · go_wp2_with fail
        refine Hcall.out.mono ?_
        rintro e w1 ⟨rfl, hc1⟩
        have H1 := Lib.hid (Hcw.out.trans hc1)
        clear hc1 q0 q1 q2 lg
        go_wp2_with fail
        go_ret
        exact ⟨by rw [fidx_some (isK nm) st n hlt J.Rec.zero Hno.out (by rw [Hb.out.1]; exact Hb.out.2)]; rfl, H1.out⟩
    · have hn1 : ¬ ((n : Int) < st.length) := by omega
      have hnl : n = st.length := by omega
      have Hnl := Lib.hid hnl
      clear hnl
      go_wp2_with fail
      go_ret
      refine ⟨?_, Hcw.out⟩
      rw [fidx_none (isK nm) st (fun x hx => Hno.out x (by rw [Hnl.out, List.take_length]; exact hx))]
      rfl
/-- one name appended -/
theorem run_append_nm (w : World) (ty : TypeId) (B : Nat) (v : Value) (l : List ByteArray) (x : ByteArray) (n : Nat) (hv : OwnS w B v l) (hb : w.heap[n]? = some (.cells #[.string x] 9 (0, 0))) (hlen : l.length ≤ 1000) (hB : B ≤ w.heap.size) :
    ∃ v' w', (Builtin.append_ #[22, 22] ty #[v, .slice (some ⟨n, 0, none⟩) 1 1]).run Tryz.prog w = .ok v' w' ∧ OwnS w' B v' (l ++ [x]) ∧ Chg v.ownBlock.toList w w' ∧ (∀ g, v'.ownBlock = some g → v.ownBlock = some g ∨ w.heap.size ≤ g) := by
  obtain ⟨i0, hi, hz0, hz1, hz2⟩ := info_parts Tryz.infoStr
  obtain ⟨v', w', hr, h2, h3, _, h5⟩ := run_append_own_at (P := Tryz.prog) w B 22 ty 9 i0 (.string ⟨#[]⟩) 1 16 Tryz.underlying22 hi hz0 hz1 hz2 rfl (by decide) v l.length (l.map sk) hv ⟨n, 0, none⟩ 1 1 [sk x] rfl (fun j u hj => by
    rw [Addr.add_lit, Nat.zero_add]
    refine cell_of_heap hb ?_
    match j with
    | 0 => simpa [sk] using hj
    | j + 1 => simp at hj) (fun u hu => by rw [List.mem_singleton.1 hu]; rfl) (by unfold maxLen; omega) (by omega) hB
  refine ⟨v', w', hr, ?_, (Chg.refl _ w).grown h3 (by intro k hk; left; simp [hk]), fun g hg => ?_⟩
  · unfold OwnS
    rw [List.map_append, List.length_append]
    exact h2
  · rcases h5 with h5 | h5
    · exact Or.inl (by rw [← h5]; exact hg)
    · right
      rw [h5] at hg
      cases hg
      exact Nat.le_refl _
/-- the sort of entries whose words lie in blocks of which q holds -/
theorem sortIdx_q (w : World) (B : Nat) (q : Nat → Prop) (D : List Dc) (v : Value) (es : List Ent) (h : OwnEn w B v es) (hq : ∀ g, v.ownBlock = some g → q g) (hl : es.length ≤ 1000) (hn : (D.map (·.1)).Nodup) (hm : es.map (·.nm) = D.map (·.1))
    (ho : ∀ e ∈ es, EnOk D (fun g => v.ownBlock ≠ some g ∧ q g) w e) :
    Calls Tryz.prog 17 #[v, .func (.func 18) #[] #[]] w fun e w' =>
      e = .returned (.tuple #[]) ∧ ∃ I, IsIdx D I ∧ IxP q q w' v I ∧ Chg v.ownBlock.toList w w' := by
  obtain ⟨a, cap, rfl⟩ := ownsRow_shape h
  by_cases h0 : es = []
  · subst h0
    refine (AnyF.slices_SortFunc_none (P := Tryz.prog) (ρ := Tryz.laysSlF06_f22_ren) { Tryz.laysSlF06_f22 with } a cap _ _).mono ?_
    rintro e w' ⟨rfl, rfl⟩
    have hD : D = [] := by simpa using hm.symm
    subst hD
    exact ⟨rfl, [], ⟨List.Perm.refl _, List.Pairwise.nil⟩, ⟨a, cap, rfl, Nat.zero_le _, (OwnEn.bound h).2.2, fun hx => absurd hx (by simp)⟩, Chg.refl _ _⟩
  · have hpos : 0 < es.length := List.length_pos_iff.2 h0
    obtain ⟨_, b1, b2⟩ := OwnEn.bound h
    obtain ⟨blk, c, hv, hge, hlt⟩ := World.ownsRow.form h hpos
    simp only [Value.slice.injEq, true_and] at hv
    obtain ⟨rfl, rfl⟩ := hv
    have hs := sortEnts_any (cap := cap) es.toArray (holds_ents h) hlt (by simp; omega)
    simp only [List.size_toArray] at hs
    refine hs.mono ?_
    rintro e w' ⟨rfl, a', hsz, hp, hso, hH, hc⟩
    have hp' : a'.toList.Perm es := by simpa using hp
    have hmem : ∀ e ∈ a'.toList, e ∈ es := fun e he => hp'.mem_iff.1 he
    refine ⟨rfl, a'.toList.map fun e => entO (dOf D e.nm), isIdx_of hn hm hp' (fun e he => ?_) (fun i j hi hj hij => ?_), ?_, by simpa [Value.ownBlock] using hc⟩
    · obtain ⟨d, h1, h2, _⟩ := ho e (hmem e he)
      exact ⟨d, h1, h2⟩
    · have hi' : i < a'.size := by simpa using hi
      have hj' : j < a'.size := by simpa using hj
      have := hso i j hij (by omega)
      rw [getElem!_pos a' i hi', getElem!_pos a' j hj'] at this
      simpa using this
    · rw [← hsz]
      refine ents_read hn hH (hq _ rfl) (by omega) b2 fun e he => (ho e (hmem e he)).mono hc.toP (fun g hg hm => ?_) (fun g hg => hg.2)
      rw [List.mem_singleton] at hm
      exact hg.1 (by rw [hm]; rfl)
/-- the first place of a test that holds somewhere -/
theorem fidx_hit {α : Type} (q : α → Bool) (l : List α) (h : ∃ x ∈ l, q x = true) : ∃ j, ∃ hj : j < l.length, fidx q l = (j : Int) ∧ q (l[j]'hj) = true := by
  unfold fidx
  cases hf : l.findIdx? q with
  | none =>
    rw [List.findIdx?_eq_none_iff] at hf
    obtain ⟨x, hx, hq⟩ := h
    rw [hf x hx] at hq
    cases hq
  | some k =>
    rw [List.findIdx?_eq_some_iff_getElem] at hf
    obtain ⟨hk, hq, _⟩ := hf
    exact ⟨k, hk, rfl, hq⟩
def recD (d : Dc) : J.Rec := recI (entO d)
theorem recD_key (d : Dc) : (recD d).key = d.1 := rfl
theorem recD_val (d : Dc) : (recD d).val = lb (encL (ck d.2.2.data.toList) (words d.2.2)) := rfl
theorem state_mem {D0 : List Dc} {st : List J.Rec} (h : J.IsState (D0.map recD) st) (hn : (D0.map (·.1)).Nodup) (r : J.Rec) : r ∈ st ↔ ∃ d ∈ D0, r = recD d := by
  have hd : ∀ a ∈ D0, ∀ b ∈ D0, a.1 = b.1 → a = b := fun a ha b hb e => by rw [← dOf_eq hn ha, ← dOf_eq hn hb, e]
  rw [h.mem r]
  constructor
  · rintro ⟨h1, _⟩
    obtain ⟨h2, _⟩ := J.lastRec_mem h1
    obtain ⟨d, h3, h4⟩ := List.mem_map.1 h2
    exact ⟨d, h3, h4.symm⟩
  · rintro ⟨d, h1, rfl⟩
    refine ⟨J.lastRec_distinct ?_ _ (List.mem_map.2 ⟨d, h1, rfl⟩), rfl⟩
    intro a ha b hb e
    obtain ⟨da, ha1, rfl⟩ := List.mem_map.1 ha
    obtain ⟨db, hb1, rfl⟩ := List.mem_map.1 hb
    rw [hd da ha1 db hb1 e]
theorem state_find {D0 : List Dc} {st : List J.Rec} (h : J.IsState (D0.map recD) st) (hn : (D0.map (·.1)).Nodup) {d0 : Dc} (h0 : d0 ∈ D0) : ∃ j, ∃ hj : j < st.length, fidx (isK d0.1) st = (j : Int) ∧ st[j]'hj = recD d0 := by
  obtain ⟨j, hj, h1, h2⟩ := fidx_hit (isK d0.1) st ⟨recD d0, (state_mem h hn _).2 ⟨d0, h0, rfl⟩, by unfold isK; exact decide_eq_true rfl⟩
  refine ⟨j, hj, h1, ?_⟩
  obtain ⟨d, h3, h4⟩ := (state_mem h hn _).1 (List.getElem_mem hj)
  unfold isK at h2
  rw [decide_eq_true_eq, h4, recD_key] at h2
  have : d = d0 := by rw [← dOf_eq hn h3, ← dOf_eq hn h0, h2]
  rw [h4, this]
theorem state_none {D0 : List Dc} {st : List J.Rec} (h : J.IsState (D0.map recD) st) (hn : (D0.map (·.1)).Nodup) {nm : ByteArray} (h0 : ∀ d ∈ D0, d.1 ≠ nm) : fidx (isK nm) st = -1 := by
  refine fidx_none _ _ fun r hr => ?_
  obtain ⟨d, h1, rfl⟩ := (state_mem h hn r).1 hr
  unfold isK
  exact decide_eq_false (h0 d h1)
/-- is this document's sum among those of D0? -/
def sameS (d x : Dc) : Bool := decide (x.1 = d.1 ∧ ck x.2.2.data.toList = ck d.2.2.data.toList)
def fresh (D0 : List Dc) (d : Dc) : Bool := D0.any (sameS d)
/-- the document whose words Restore takes -/
def eff (D0 : List Dc) (d : Dc) : Dc := match D0.find? (sameS d) with
  | some x => (d.1, d.2.1, x.2.2)
  | none => d
theorem eff_name (D0 : List Dc) (d : Dc) : (eff D0 d).1 = d.1 := by unfold eff; split <;> rfl
theorem eff_hit {D0 : List Dc} (hn : (D0.map (·.1)).Nodup) {d d0 : Dc} (h0 : d0 ∈ D0) (h1 : d0.1 = d.1) (h2 : ck d0.2.2.data.toList = ck d.2.2.data.toList) : eff D0 d = (d.1, d.2.1, d0.2.2) ∧ fresh D0 d = true := by
  have ht : sameS d d0 = true := decide_eq_true ⟨h1, h2⟩
  refine ⟨?_, List.any_eq_true.2 ⟨d0, h0, ht⟩⟩
  unfold eff
  cases hf : D0.find? (sameS d) with
  | none =>
    rw [List.find?_eq_none] at hf
    exact absurd ht (hf d0 h0)
  | some x =>
    have hx := List.mem_of_find?_eq_some hf
    have hq := List.find?_some hf
    unfold sameS at hq
    rw [decide_eq_true_eq] at hq
    have : x = d0 := by rw [← dOf_eq hn hx, ← dOf_eq hn h0, hq.1, h1]
    rw [this]
theorem eff_miss {D0 : List Dc} {d : Dc} (h : ∀ d0 ∈ D0, d0.1 = d.1 → ck d0.2.2.data.toList ≠ ck d.2.2.data.toList) : eff D0 d = d ∧ fresh D0 d = false := by
  have hq : ∀ x ∈ D0, sameS d x = false := fun x hx => by
    unfold sameS
    exact decide_eq_false fun e => h x hx e.1 e.2
  refine ⟨?_, List.any_eq_false.2 fun x hx => by rw [hq x hx]; decide⟩
  unfold eff
  have : D0.find? (sameS d) = none := List.find?_eq_none.2 fun x hx => by rw [hq x hx]; decide
  rw [this]
/-- the names that are scanned -/
def scanN (D0 D : List Dc) : List ByteArray := (D.filter fun d => !fresh D0 d).map (·.1)
theorem scanN_snoc (D0 D : List Dc) (d : Dc) : scanN D0 (D ++ [d]) = scanN D0 D ++ (if fresh D0 d then [] else [d.1]) := by
  unfold scanN
  rw [List.filter_append, List.map_append]
  cases h : fresh D0 d <;> simp [h]
theorem scanN_len (D0 D : List Dc) : (scanN D0 D).length ≤ D.length := by
  unfold scanN
  rw [List.length_map]
  exact List.length_filter_le _ _
theorem eff_names (D0 D : List Dc) : (D.map (eff D0)).map (·.1) = D.map (·.1) := by
  rw [List.map_map]
  exact List.map_congr_left fun d _ => eff_name D0 d
end Go.Proofs.YticfigfipbcmhaaGreatDoor
