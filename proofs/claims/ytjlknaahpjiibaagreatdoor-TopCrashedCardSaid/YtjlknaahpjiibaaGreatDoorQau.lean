/- Part of the proof of topCrashedLaw_holds. -/
import Derived.Test.YtjlknaahpjiibaaGreatDoorQaa
import Derived.Test.YtjlknaahpjiibaaGreatDoorQar
import Derived.Test.YtjlknaahpjiibaaGreatDoorQat
namespace Go.Proofs.YtjlknaahpjiibaaGreatDoor.F
open Go.RowKit Go.ChangeMaps Go.MapKept Go.Shelf
set_option linter.unusedVariables false
set_option linter.unusedSimpArgs false
theorem skOk (s : ByteArray) (h : s.size ≤ maxLen) : KeyOk Tryz.prog 9 (sk s) := by
 unfold KeyOk sk
 simp [keyOf, Tryz.underlying9, mapKey]
 exact h
theorem skeyed : Go.Maps.Keyed Tryz.prog 9 := Go.Maps.string_keyed Tryz.underlying9
def esE (M : List (ByteArray × FEv)) : List (ByteArray × Value) := M.map fun p => (p.1, evV p.2)
theorem esE_ups (M : List (ByteArray × FEv)) (k : ByteArray) (e : FEv) : ups (esE M) k (evV e) = esE (ups M k e) := by
 unfold esE
 induction M with
 | nil => rfl
 | cons p M ih =>
   simp only [List.map_cons, ups]
   split
   · rfl
   · rw [ih]; rfl
theorem esE_get (M : List (ByteArray × FEv)) (k : ByteArray) : aget (esE M) k = (aget M k).map evV := by
 unfold esE
 induction M with
 | nil => rfl
 | cons p M ih =>
   simp only [List.map_cons, aget_cons]
   split
   · rfl
   · exact ih
theorem esE_keys (M : List (ByteArray × FEv)) : (esE M).map (·.1) = M.map (·.1) := by simp [esE]
theorem zeroEv (w : World) : (zeroValue 36).run Tryz.prog w = .ok (evV ev0) w := by
 have h : (Tryz.prog.info? 36).map (fun i => (i.zero, i.size, i.bytes)) = some (some (.agg #[.int .i64 0, .string ⟨#[]⟩, .int .i64 0]), 3, 32) := by kernel_rfl
 obtain ⟨i0, hi, hz0, hz1, hz2⟩ := info_parts h
 simp [zeroValue, typeInfo, hi, hz0, evV, ev0]
theorem lookEv {w : World} {b : Nat} {M : List (ByteArray × FEv)} (h : MapAt Tryz.prog 9 sk w b (esE M)) (x : ByteArray) (hx : x.size ≤ maxLen) :
 (Instr.lookup 122 (.map (some b)) (.string x) false).run Tryz.prog w = .ok (evV ((aget M x).getD ev0)) w := by
 have := h.lookup skeyed skInj Tryz.underlying122 (skOk x hx) (zeroEv w) false
 rw [esE_get] at this
 unfold sk at this
 rw [this]
 cases aget M x <;> rfl
theorem fieldEv (t : Int) (p : ByteArray) (k : Int) (w : World) : (Instr.field 36 (.agg #[.int .i64 t, .string p, .int .i64 k]) 2).run Tryz.prog w = .ok (.int .i64 k) w := by kernel_rfl
theorem mgd_len (E : List FEv) : (mgd E).length ≤ E.length := by
 refine snocInd (p := fun E => (mgd E).length ≤ E.length) ?_ ?_ E
 · simp [mgd]
 · intro E x ih
   rw [mgd_snoc]
   have := length_ups_le (mgd E) x.2.1 (x.1, x.2.1, mrg (kd (aget (mgd E) x.2.1)) x.2.2)
   unfold mgStep
   simp only [List.length_append, List.length_cons, List.length_nil]
   omega
theorem kd_getD (o : Option FEv) : (o.getD ev0).2.2 = kd o := by cases o <;> rfl
def fE (M : List (ByteArray × FEv)) (k : ByteArray) : Option FEv := (aget M k).filter fun e => decide (e.2.2 ≠ 0)
theorem nbE_eq (E : List FEv) : nbE E = (srt ((mgd E).map (·.1))).filterMap (fE (mgd E)) := rfl
theorem take_fm {α β : Type} (f : α → Option β) (l : List α) (k : Nat) (h : k < l.length) (d : α) : (l.take (k + 1)).filterMap f = (l.take k).filterMap f ++ (f (l.getD k d)).toList := by
 rw [List.take_succ_eq_append_getElem h, List.filterMap_append, List.getD_eq_getElem?_getD, List.getElem?_eq_getElem h]
 simp only [List.filterMap_cons, List.filterMap_nil, Option.getD_some]
 cases f l[k] <;> rfl
theorem StrsP.cell {p : Nat → Prop} {w : World} {a : Option Addr} {n cap : Nat} {xs : List ByteArray} (h : StrsP p w (.slice a n cap) xs) (i : Nat) (hi : i < xs.length) :
 ∃ g off, a = some ⟨g, off, none⟩ ∧ p g ∧ w.cell? ⟨g, off + i, none⟩ = some (.string (xs.getD i ⟨#[]⟩)) := by
 obtain ⟨g, off, rfl, hp, h⟩ := SlR.at h i hi ⟨#[]⟩
 exact ⟨g, off, rfl, hp, by rw [Nat.mul_one] at h; exact h⟩
theorem StrsP.same {p : Nat → Prop} {w w' : World} {v : Value} {xs : List ByteArray} (h : StrsP p w v xs) (hc : Chg [] w w') : StrsP p w' v xs :=
 SlR.imp h (fun _ h => h) fun ad x hp hx => (hc.cell (lt_of_cell hx) (by simp)).trans hx
theorem Tryz.infoEv : (Tryz.prog.info? 36).map (fun i => (i.zero, i.size, i.bytes)) = some (some (.agg #[.int .i64 0, .string ⟨#[]⟩, .int .i64 0]), 3, 32) := by kernel_rfl
theorem getLast_getD {E : List FEv} (h : 0 < E.length) : E.getD (E.length - 1) ev0 = E.getLastD ev0 := by
 rw [List.getD_eq_getElem?_getD, List.getElem?_eq_getElem (show E.length - 1 < E.length by omega), List.getLastD_eq_getLast?, List.getLast?_eq_getElem?, List.getElem?_eq_getElem (show E.length - 1 < E.length by omega)]
theorem own_chg {w w1 : World} {v : Value} {base k size : Nat} {e : TypeId} {cs : List Value} (hv : w.ownsRow base e size v k cs) (hg : w.grownBy w1 v.ownBlock) : Chg v.ownBlock.toList w w1 ∧ ∀ g ∈ v.ownBlock.toList, base ≤ g := by
 refine ⟨(Chg.refl _ w).grown hg (fun j hj => Or.inl (by simp [hj])), fun g hg' => ?_⟩
 rcases hv.2 with ⟨rfl, _⟩ | ⟨g', cap, cur, rfl, hb, hgg, _⟩
 · simp [Value.ownBlock] at hg'
 · simp [Value.ownBlock] at hg'
   subst hg'
   exact hb
theorem news_of {w : World} {g : Nat} {c : Array Value} {E : TypeId} {fr : Nat × Nat} (h : w.heap[g]? = some (.cells c E fr)) : ∀ j u, c.toList[j]? = some u → w.cell? ((⟨g, 0, none⟩ : Addr).add j) = some u := by
 intro j u hj
 rw [Addr.add_lit]
 exact cell_of_heap h (by simpa using hj)
theorem mgd_from (E : List FEv) (x : ByteArray) (h : (aget (mgd E) x).isSome = true) : ∃ e ∈ E, e.2.1 = x := by
 obtain ⟨e, he⟩ := Option.isSome_iff_exists.1 h
 obtain ⟨_, _, e', h1, _, h2⟩ := (mgd_get E x).1 e he
 exact ⟨e', h1, h2⟩
def NbPost (E : List FEv) (d : Int) (w : World) (e : Ending) (w' : World) : Prop :=
 ∃ v, e = .returned (.agg #[.int .i64 ((E.getLastD ev0).1 + d), v]) ∧ OwnEv w' w.heap.size v (nbE E) ∧ Chg [] w w'
set_option maxRecDepth 100000 in
set_option maxHeartbeats 8000000 in
theorem newBatch_any (p : Nat → Prop) (w : World) (v : Value) (E : List FEv) (d : Int) (h : EvsP p w v E) (hE : EvOk E) (hne : E ≠ []) (h0 : 0 ≤ d) (h1 : d ≤ 1000000) :
 Calls Tryz.prog 32 #[v, .int .i64 d] w (NbPost E d w) := by
 obtain ⟨a, cap, rfl, hml, hcp⟩ := h.shape
 have H := Lib.hid h
 have HE := Lib.hid hE
 have hl := hE.len
 have hpos : 0 < E.length := List.length_pos_iff.2 hne
 have hmm := @run_makeMap Tryz.prog
 obtain ⟨w0, hw0⟩ : ∃ x, x = w.alloc (.cells #[.int .i64 0, .slice none 0 0] 45) := ⟨_, rfl⟩
 have hb0 : w0.heap[w.heap.size]? = some (.cells #[.int .i64 0, .slice none 0 0] 45 (0, 0)) := by rw [hw0]; exact heap_at _ _ _ rfl
 have hs0 : w0.heap.size = w.heap.size + 1 := by rw [hw0]; simp
 have hc0 : Chg [] w w0 := by rw [hw0]; exact (Chg.refl [] w).alloc _
 obtain ⟨w1, hw1⟩ : ∃ x, x = w0.alloc (.map #[] 0) := ⟨_, rfl⟩
 have hc1 : Chg [] w0 w1 := by rw [hw1]; exact (Chg.refl [] w0).alloc _
 have hm1 : MapAt Tryz.prog 9 sk w1 w0.heap.size (esE []) := by rw [hw1]; exact MapAt.made _ _ _ _
 have hb1 : w1.heap[w.heap.size]? = _ := (hc1.block _ (lt_of_obj hb0) (by simp)).trans hb0
 obtain ⟨bm, hbm⟩ : ∃ n, n = w0.heap.size := ⟨_, rfl⟩
 obtain ⟨br, hbr⟩ : ∃ n, n = w.heap.size := ⟨_, rfl⟩
 rw [← hbm] at hm1
 rw [← hbr] at hb1
 have Hc1 := Lib.hid (hc0.trans hc1)
 have Hm1 := Lib.hid hm1
 have Hb1 := Lib.hid hb1
 have Hbm := Lib.hid (And.intro hbm (And.intro hbr hs0))
 unfold maxLen at hml
 clear h hE hne hc0 hc1 hm1 hb0 hb1 hbm hbr hs0
 go_enter Tryz.func32, Tryz.ntmps32
 go_wp2_with fail
 have hbm1 : w.heap.size + 1 = bm := by have := Hbm.out; omega
 rw [← hw0, ← hw1, hbm1, ← Hbm.out.2.1]
 clear hbm1
 go_loopw [14] (fun jj wr => ∃ k : Nat, k ≤ E.length ∧ jj = .int .i64 (k : Nat) ∧ MapAt Tryz.prog 9 sk wr bm (esE (mgd (E.take k))) ∧ wr.heap[br]? = some (.cells #[.int .i64 0, .slice none 0 0] 45 (0, 0)) ∧ Chg [] w wr) (fun jj _ => E.length - (intOf jj).toNat)
 case atStart => exact ⟨0, by omega, rfl, Hm1.out, Hb1.out, Hc1.out⟩
 case round =>
  obtain ⟨k, hk, rfl, hm, hb, hc⟩ := hrel
  by_cases hlt : k < E.length
  · have hk1 : (k : Int) < E.length := by omega
    obtain ⟨g, off, rfl, hp, c0, c1, c2⟩ := (H.out.same hc).cells k hlt
    have hem := getD_memE hlt
    have hpa := HE.out.path _ hem
    obtain ⟨⟨t, pa, kk⟩, hr⟩ : ∃ r, E.getD k ev0 = r := ⟨_, rfl⟩
    rw [hr] at c0 c1 c2 hpa
    simp only at c0 c1 c2 hpa
    have htk : mgd (E.take (k + 1)) = ups (mgd (E.take k)) pa (t, pa, mrg (kd (aget (mgd (E.take k)) pa)) kk) := by
     rw [fold_take_snoc E k hlt ev0, hr, mgd_snoc]; rfl
    obtain ⟨w2, hw2⟩ : ∃ x, x = wr.alloc (.cells #[.int .i64 t, .string pa, .int .i64 kk] 36) := ⟨_, rfl⟩
    have hc2 : Chg [] wr w2 := by rw [hw2]; exact (Chg.refl [] wr).alloc _
    have hlook := lookEv (hm.kept hc2 (by simp)) pa hpa
    obtain ⟨x, hx⟩ : ∃ x, (aget (mgd (E.take k)) pa).getD ev0 = x := ⟨_, rfl⟩
    have hxk : kd (aget (mgd (E.take k)) pa) = x.2.2 := by rw [← kd_getD, hx]
    rw [hx] at hlook
    rw [hxk] at htk
    obtain ⟨x0, x1, x2⟩ := x
    unfold evV at hlook
    simp only at hlook htk
    have hfe := fun W => fieldEv x0 x1 x2 W
    obtain ⟨w3, hw3⟩ : ∃ x, x = wr.alloc (.cells #[.int .i64 t, .string pa, .int .i64 (mrg x2 kk)] 36) := ⟨_, rfl⟩
    have hc3 : Chg [] wr w3 := by rw [hw3]; exact (Chg.refl [] wr).alloc _
    obtain ⟨o, hup, hmu⟩ := (hm.kept hc3 (by simp)).update skeyed skInj Tryz.underlying122 (skOk pa hpa) (evV (t, pa, mrg x2 kk))
    rw [esE_ups, ← htk] at hmu
    unfold sk evV at hup
    simp only at hup
    have hup' : (Instr.mapUpdate 122 (.map (some bm)) (.string pa) (.agg #[.int .i64 t, .string pa, .int .i64 (mrg x2 kk)])).run Tryz.prog (wr.alloc (.cells #[.int .i64 t, .string pa, .int .i64 (mrg x2 kk)] 36)) = .ok () (setBlock w3 bm o) := by
     rw [← hw3]; exact hup
    have hbr : br ≠ bm := by have := Hbm.out; omega
    have hbw : br < wr.heap.size := lt_of_obj hb
    have hmlt := hm.lt
    have hbb : (setBlock w3 bm o).heap[br]? = wr.heap[br]? := by
     have : (setBlock w3 bm o).heap[br]? = w3.heap[br]? := by simp [setBlock, Ne.symm hbr]
     rw [this]; exact hc3.block _ hbw (by simp)
    have hcl : w.heap.size ≤ bm := by have := Hbm.out; omega
    have Hend := Lib.hid (And.intro hmu (And.intro (hbb.trans hb) (((hc.trans hc3).setBlock (b := bm) (Or.inr hcl) o))))
    have HM := fun W => Lib.hid (merge_any x2 kk W)
    rw [hw2] at hlook
    clear hm hb hc hr hem hc2 hc3 hup hw2 hmu hbb htk hx hxk hbr hbw hmlt hcl hw3 Hm1 Hb1 Hc1 hw0 hw1
    go_wp2_with fail
    refine (HM _).out.mono ?_
    rintro e w' ⟨rfl, rfl⟩
    go_wp2_with fail
    exact ⟨⟨k + 1, by omega, by go_num, Hend.out.1, Hend.out.2.1, Hend.out.2.2⟩, by simp [intOf]; omega⟩
  · obtain rfl : k = E.length := by omega
    obtain ⟨wo, rfl⟩ : ∃ x, x = wr := ⟨_, rfl⟩
    have hk1 : ¬ ((E.length : Int) < E.length) := by omega
    rw [List.take_length] at hm
    have hka : E.length - 1 < E.length := by omega
    obtain ⟨g, off, rfl, hp, c0, c1, c2⟩ := (H.out.same hc).cells (E.length - 1) hka
    have htm := HE.out.time _ (getD_memE hka)
    rw [getLast_getD hpos] at c0 htm
    obtain ⟨M, hM⟩ : ∃ M, mgd E = M := ⟨_, rfl⟩
    have hMl := mgd_len E
    have hnb := nbE_eq E
    have hMk := mgd_key E
    have hMp : ∀ x e, aget (mgd E) x = some e → e.2.1 = x := fun x e h => ((mgd_get E x).1 e h).1
    rw [hM] at hm hMl hnb hMk hMp
    obtain ⟨tl, htl⟩ : ∃ t, (E.getLastD ev0).1 = t := ⟨_, rfl⟩
    rw [htl] at c0 htm
    have hkx : (E.length : Int) - 1 = ((E.length - 1 : Nat) : Int) := by omega
    obtain ⟨w4, hw4⟩ : ∃ x, x = wo.alloc (.cells #[.int .i64 (tl + d), .slice none 0 0] 45) := ⟨_, rfl⟩
    have hc4 : Chg [] wo w4 := by rw [hw4]; exact (Chg.refl [] wo).alloc _
    have hb4 : w4.heap[wo.heap.size]? = some (.cells #[.int .i64 (tl + d), .slice none 0 0] 45 (0, 0)) := by rw [hw4]; exact heap_at _ _ _ rfl
    have hs4 : w4.heap.size = wo.heap.size + 1 := by rw [hw4]; simp
    obtain ⟨w5, hw5⟩ : ∃ x, x = w4.alloc (.cells #[.map (some bm)] 122) := ⟨_, rfl⟩
    have hc5 : Chg [] w4 w5 := by rw [hw5]; exact (Chg.refl [] w4).alloc _
    have hb5 : w5.heap[w4.heap.size]? = some (.cells #[.map (some bm)] 122 (0, 0)) := by rw [hw5]; exact heap_at _ _ _ rfl
    have hs5 : w5.heap.size = w4.heap.size + 1 := by rw [hw5]; simp
    have hm5 := (hm.kept hc4 (by simp)).kept hc5 (by simp)
    have Hsort := Lib.hid (sorted_any _ (esE M) (by simp [esE]; omega) w5 (collectKeysE_any w4.heap.size bm (esE M) (by simp [esE]; omega) w5 hb5 hm5))
    have Hkeys := Lib.hid (mapsKeysE_any bm w4)
    have hb45 : w5.heap[wo.heap.size]? = some (.cells #[.int .i64 (tl + d), .slice none 0 0] 45 (0, 0)) := (hc5.block _ (lt_of_obj hb4) (by simp)).trans hb4
    have hbr5 : w5.heap[br]? = some (.cells #[.int .i64 0, .slice none 0 0] 45 (0, 0)) := ((hc4.trans hc5).block _ (lt_of_obj hb) (by simp)).trans hb
    have Hc5 := Lib.hid (hc.trans (hc4.trans hc5))
    have Hm5 := Lib.hid hm5
    have Hb45 := Lib.hid hb45
    have Hbr5 := Lib.hid hbr5
    have Hmd := Lib.hid hM
    have Hw4 := Lib.hid hw4
    have Hw5 := Lib.hid hw5
    have Hx := Lib.hid (And.intro hMl (And.intro hnb (And.intro hMk (And.intro hMp htl))))
    have Hsz := Lib.hid (show w.heap.size ≤ wo.heap.size ∧ br < wo.heap.size ∧ wo.heap.size + 2 = w5.heap.size ∧ bm < wo.heap.size from ⟨hc.size, lt_of_obj hb, by omega, hm.lt⟩)
    have hadd : IntKind.i64.wrap (tl + d) = tl + d := IntWalk.i64_in _ (by omega)
    have hfr4 := lt_of_cell c0
    clear hm hb hc hc4 hb4 hs4 hc5 hb5 hs5 hm5 hb45 hbr5 hw4 hw5 hM hMl hnb hMk hMp htl c1 c2 hw0 hw1
    go_wp2_with fail
    rw [← Hw4.out]
    refine Hkeys.out.mono ?_
    rintro e wx ⟨rfl, hwx⟩
    rw [← Hw5.out] at hwx
    subst hwx
    go_wp2_with fail
    refine Hsort.out.mono ?_
    rintro e w6 ⟨kv, rfl, hkv, hc6⟩
    rw [esE_keys] at hkv
    obtain ⟨ks, hks⟩ : ∃ ks, srt (M.map (·.1)) = ks := ⟨_, rfl⟩
    rw [hks] at hkv
    obtain ⟨ka, kc, rfl, hkl, hkc⟩ := SlR.shape hkv
    have hsz6 := hc6.size
    have Hsz6 := Lib.hid hsz6
    have hsx := Hsz.out
    obtain ⟨i0, hi, hz0, hz1, hz2⟩ := info_parts Tryz.infoEv
    have Hi0 := Lib.hid hi
    have Hz0 := Lib.hid hz0
    have Hz1 := Lib.hid hz1
    have Hz2 := Lib.hid hz2
    have hb6 : w6.heap[wo.heap.size]? = some (.cells #[.int .i64 (tl + d), .slice none 0 0] 45 (0, 0)) := (hc6.block _ (by omega) (by simp)).trans Hb45.out
    have hbr6 : w6.heap[br]? = some (.cells #[.int .i64 0, .slice none 0 0] 45 (0, 0)) := (hc6.block _ (by omega) (by simp)).trans Hbr5.out
    have Hm6 := Lib.hid (Hm5.out.kept hc6 (by simp))
    have Hc6 := Lib.hid (Hc5.out.trans hc6)
    have Hb6 := Lib.hid hb6
    have Hbr6 := Lib.hid hbr6
    obtain ⟨hMl, hnb, hMk, hMp, htl⟩ := Hx.out
    rw [hks] at hnb
    have hkm : ∀ x ∈ ks, (aget M x).isSome = true ∧ x.size ≤ maxLen := by
     intro x hx
     rw [← hks, srt_mem] at hx
     have h1 := (hMk x).1 hx
     refine ⟨h1, ?_⟩
     obtain ⟨e, he⟩ := Option.isSome_iff_exists.1 h1
     obtain ⟨e', he', hpe⟩ := mgd_from E x (by rw [Hmd.out]; exact h1)
     rw [← hpe]
     exact HE.out.path _ he'
    have hkn : ks.length = M.length := by rw [← hks, (srt_perm _).length_eq, List.length_map]
    have Hkm := Lib.hid hkm
    have Hkv := Lib.hid hkv
    have Hnb := Lib.hid hnb
    have Htl := Lib.hid htl
    obtain ⟨bb, hbb⟩ : ∃ n, n = wo.heap.size := ⟨_, rfl⟩
    have Hbb := Lib.hid hbb
    have hkl1 : ks.length ≤ 1000 := by omega
    clear hkv hc6 hsz6 hsx hi hz0 hz1 hz2 hb6 hbr6 hMl hnb hMk hMp htl hks hkm hkn hbb Hb45 Hbr5 Hm5 Hw4 Hw5 Hx Hc5 Hkeys Hsort hkl c0 hadd hfr4 htm Hmd
    go_wp2_with fail
    rw [← Hbb.out]
    go_loopw [46] (fun jj wz => ∃ k v, k ≤ ks.length ∧ jj = .int .i64 (k : Nat) ∧ OwnEv wz w6.heap.size v ((ks.take k).filterMap (fE M)) ∧ wz.heap[bb]? = some (.cells #[.int .i64 (tl + d), v] 45 (0, 0)) ∧ Chg [bb] w6 wz) (fun jj _ => ks.length - (intOf jj).toNat)
    case atStart => exact ⟨0, .slice none 0 0, by omega, rfl, OwnEv.nil _ _, by rw [Hbb.out]; exact Hb6.out, Chg.refl _ _⟩
    case round =>
     obtain ⟨k, v, hk, rfl, how, hbz, hcz⟩ := hrel
     have hsx := Hsz.out
     have hsz6 := Hsz6.out
     have hszz := hcz.size
     have hbx := Hbb.out
     by_cases hlt : k < ks.length
     · have hk1 : (k : Int) < ks.length := by omega
       obtain ⟨gk, ok, rfl, hgk, q0⟩ := (Hkv.out).cell k hlt
       have q0 := (hcz.cell (p := ⟨gk, ok + k, none⟩) (lt_of_cell q0) (by simp; omega)).trans q0
       have hkm := Hkm.out _ (show ks.getD k ⟨#[]⟩ ∈ ks by rw [List.getD_eq_getElem?_getD, List.getElem?_eq_getElem hlt]; simp)
       have htk := take_fm (fE M) ks k hlt ⟨#[]⟩
       obtain ⟨x, hx⟩ : ∃ x, ks.getD k ⟨#[]⟩ = x := ⟨_, rfl⟩
       rw [hx] at q0 hkm htk
       obtain ⟨⟨et, ep, ek⟩, he⟩ := Option.isSome_iff_exists.1 hkm.1
       have hlook := lookEv (Hm6.out.kept hcz (by simp; omega)) x hkm.2
       rw [he] at hlook
       unfold evV at hlook
       simp only [Option.getD_some] at hlook
       have hfe := fun W => fieldEv et ep ek W
       have b1 : wr.cell? ⟨bb, 1, none⟩ = some v := cell_of_heap hbz rfl
       have lb := lt_of_cell b1
       by_cases h0 : ek = 0
       · subst h0
         have hft : fE M x = none := by unfold fE; rw [he]; rfl
         rw [hft] at htk
         simp only [Option.toList_none, List.append_nil] at htk
         have Hend := Lib.hid (And.intro how (And.intro hbz hcz))
         have Htk := Lib.hid htk
         clear how hbz hcz htk he hkm hx hft hsx hsz6 hszz hbx hgk
         go_wp2_with fail
         go_roundw
         case rel => exact ⟨k + 1, v, by omega, by go_num, by rw [Htk.out]; exact Hend.out.1, Hend.out.2.1, Hend.out.2.2⟩
         case measure => simp [intOf]; omega
       · have h0b : (ek != 0) = true := by simp [h0]
         have hft : fE M x = some (et, ep, ek) := by unfold fE; rw [he]; simp [Option.filter, h0]
         rw [hft] at htk
         simp only [Option.toList_some] at htk
         have hal : ((ks.take k).filterMap (fE M)).length ≤ k := Nat.le_trans (List.length_filterMap_le _ _) (by simp; omega)
         obtain ⟨acc, hacc⟩ : ∃ acc, (ks.take k).filterMap (fE M) = acc := ⟨_, rfl⟩
         rw [hacc] at how htk hal
         have Hend := Lib.hid (And.intro hbz hcz)
         have Hown := Lib.hid (show wr.ownsRow w6.heap.size 36 3 v acc.length (evCells acc) from how)
         have Htk := Lib.hid htk
         have Hge := Lib.hid (show w6.heap.size ≤ wr.heap.size ∧ bb < w6.heap.size from ⟨hszz, by omega⟩)
         have hfb : wr.frozen? ⟨bb, 1, none⟩ = false := frozen_of_heap hbz
         clear how hbz hcz htk he hkm hx hft hsx hsz6 hszz hbx hgk hacc
         go_wp2_with (at_builtin; refine wpList_append_own _ rfl _ _ 23 rfl w6.heap.size 36 i0 (.agg #[.int .i64 0, .string ⟨#[]⟩, .int .i64 0]) 3 32 Tryz.underlying23 Hi0.out Hz0.out Hz1.out Hz2.out rfl (by decide) v acc.length (evCells acc) rfl (Hown.out.alloc _) ⟨wr.heap.size, 0, none⟩ 1 1 [.int .i64 et, .string ep, .int .i64 ek] rfl rfl (news_of (heap_at _ _ _ (by simp))) (by simp [Value.oneCell']) (by unfold maxLen; omega) (by omega) (by have := Hge.out; simp; omega) ?_; intro v8 w8 hown8 hgr8 _; obtain ⟨a8, c8, hv8⟩ := ownsRow_shape hown8; subst hv8; have hap := own_chg (World.ownsRow.alloc Hown.out (.cells #[.int .i64 et, .string ep, .int .i64 ek] 36)) hgr8; have hcw : Chg [] wr (wr.alloc (.cells #[.int .i64 et, .string ep, .int .i64 ek] 36)) := (Chg.refl [] wr).alloc _; have hnb8 : bb ∉ v.ownBlock.toList := (fun hm => by have h1 := hap.2 _ hm; have h2 := Hge.out; omega); have hb8 := (hap.1.block bb (Nat.lt_of_lt_of_le lb hcw.size) hnb8).trans ((hcw.block bb lb (by simp)).trans Hend.out.1); have c80 : w8.cell? ⟨bb, 1, none⟩ = some v := cell_of_heap hb8 rfl; have f80 : w8.frozen? ⟨bb, 1, none⟩ = false := frozen_of_heap hb8)
         have hset := heap_setCell_same hb8 (i := 1) (.slice a8 (acc.length + 1) c8)
         have hch : Chg [bb] w6 (w8.setCell ⟨bb, 1, none⟩ (.slice a8 (acc.length + 1) c8)) := by
          have hge := Hge.out
          refine Chg.setCell ((Hend.out.2.trans hcw.nil).comp hap.1 fun x hx => Or.inr (hap.2 x hx)) (Or.inl (by simp)) _
         have how8 : OwnEv (w8.setCell ⟨bb, 1, none⟩ (.slice a8 (acc.length + 1) c8)) w6.heap.size (.slice a8 (acc.length + 1) c8) (acc ++ [(et, ep, ek)]) := by
          have hge := Hge.out
          refine OwnEv.kept (w := w8) (S := fun k => k = bb) ?_ ((ChgP.refl (fun k => k = bb) w8).setCell (p := ⟨bb, 1, none⟩) (Or.inl rfl) _) ?_
          · unfold OwnEv
            rw [evCells_snoc, List.length_append]
            exact hown8
          · intro g hg e
            have := hown8.lt g hg
            omega
         rw [← Htk.out] at how8
         have HN := Lib.hid (And.intro how8 (And.intro hset hch))
         clear hset hch how8 hown8 hgr8 hap hcw hnb8
         go_wp2_with fail
         go_roundw
         case rel => exact ⟨k + 1, _, by omega, by go_num, HN.out.1, HN.out.2.1, HN.out.2.2⟩
         case measure => simp [intOf]; omega
     · obtain rfl : k = ks.length := by omega
       have hk1 : ¬ ((ks.length : Int) < ks.length) := by omega
       rw [List.take_length] at how
       obtain ⟨av, cv, hav⟩ := ownsRow_shape how
       subst hav
       have b1 : wr.cell? ⟨bb, 1, none⟩ = some (.slice av _ cv) := cell_of_heap hbz rfl
       have b0 : wr.cell? ⟨bb, 0, none⟩ = some (.int .i64 (tl + d)) := cell_of_heap hbz rfl
       have hbrw : wr.heap[br]? = some (.cells #[.int .i64 0, .slice none 0 0] 45 (0, 0)) := (hcz.block _ (by omega) (by simp; omega)).trans Hbr6.out
       have r0 : wr.cell? ⟨br, 0, none⟩ = some (.int .i64 0) := cell_of_heap hbrw rfl
       have r1 : wr.cell? ⟨br, 1, none⟩ = some (.slice none 0 0) := cell_of_heap hbrw rfl
       have fr0 : wr.frozen? ⟨br, 0, none⟩ = false := frozen_of_heap hbrw
       have fr1 : wr.frozen? ⟨br, 1, none⟩ = false := frozen_of_heap hbrw
       have hlb := lt_of_cell b0
       have hlr := lt_of_cell r0
       have HN := Lib.hid (And.intro how (And.intro hbz (And.intro hcz hbrw)))
       clear how hbz hcz hbrw hsx hsz6 hszz hbx
       go_wp2_with fail
       have rb : ∀ a b, ((wr.setCell ⟨br, 0, none⟩ a).setCell ⟨br, 1, none⟩ b).cell? ⟨br, 0, none⟩ = some a ∧ ((wr.setCell ⟨br, 0, none⟩ a).setCell ⟨br, 1, none⟩ b).cell? ⟨br, 1, none⟩ = some b := by
        intro a b
        have h1 := heap_setCell_same (heap_setCell_same HN.out.2.2.2 (i := 0) a) (i := 1) b
        exact ⟨cell_of_heap h1 rfl, cell_of_heap h1 rfl⟩
       obtain ⟨y0, y1⟩ := rb (.int .i64 (tl + d)) (.slice av (List.filterMap (fE M) ks).length cv)
       refine bodyPost_ret (v := .agg #[.int .i64 (tl + d), .slice av (List.filterMap (fE M) ks).length cv]) (by simp [results, Tryz.results32, go_sem, y0, y1]) rfl ⟨_, by rw [Htl.out], ?_, ?_⟩
       · rw [Hnb.out]
         have hge := Hsz6.out
         have hgx := Hsz.out
         refine OwnEv.kept (w := wr) (S := fun k => k = br) (ownsRow_base HN.out.1 (by have := Hc6.out.size; omega)) (((ChgP.refl (fun k => k = br) wr).setCell (p := ⟨br, 0, none⟩) (Or.inl rfl) _).setCell (p := ⟨br, 1, none⟩) (Or.inl rfl) _) ?_
         intro g hg e
         have := HN.out.1.lt g hg
         omega
       · have hgx := Hsz.out
         have hbx := Hbb.out
         have hbm := Hbm.out
         exact ((Hc6.out.comp HN.out.2.2.1 fun x hx => Or.inr (by rw [List.mem_singleton.1 hx]; omega)).setCell (p := ⟨br, 0, none⟩) (Or.inr (by show w.heap.size ≤ br; omega)) _).setCell (p := ⟨br, 1, none⟩) (Or.inr (by show w.heap.size ≤ br; omega)) _
abbrev Bt := Int × List FEv
def batCells (us : List (Int × Value)) : List Value := us.flatMap fun u => [.int .i64 u.1, u.2]
theorem batCells_snoc (us : List (Int × Value)) (u : Int × Value) : batCells (us ++ [u]) = batCells us ++ [.int .i64 u.1, u.2] := by simp [batCells, List.flatMap_append]
theorem batCells_get (us : List (Int × Value)) (j : Nat) (h : j < us.length) : (batCells us)[j * 2]? = some (.int .i64 us[j].1) ∧ (batCells us)[j * 2 + 1]? = some us[j].2 := by
 induction us generalizing j with
 | nil => simp at h
 | cons x r ih =>
   cases j with
   | zero => simp [batCells, List.flatMap_cons]
   | succ j =>
     have := ih j (by simpa using h)
     simp only [batCells, List.flatMap_cons] at this ⊢
     rw [show (j + 1) * 2 = j * 2 + 2 by omega, show j * 2 + 2 + 1 = j * 2 + 1 + 2 by omega]
     simpa using this
def BatO (w : World) (base : Nat) (v : Value) (bs : List Bt) : Prop :=
 ∃ us : List (Int × Value), us.length = bs.length ∧ w.ownsRow base 45 2 v us.length (batCells us) ∧ ∀ (i : Nat) (u : Int × Value) (b : Bt), us[i]? = some u → bs[i]? = some b → u.1 = b.1 ∧ OwnEv w base u.2 b.2
theorem BatO.nil (w : World) (base : Nat) : BatO w base (.slice none 0 0) [] := ⟨[], rfl, ⟨rfl, .inl ⟨rfl, rfl⟩⟩, by simp⟩
theorem own_at {w : World} {B sz : Nat} {e : TypeId} {v : Value} {n : Nat} {xs : List Value} (h : w.ownsRow B e sz v n xs) {g : Nat} (hg : v.ownBlock = some g) : ∃ cur, w.heap[g]? = some (.cells cur e (0, 0)) := by
 rcases h.2 with ⟨rfl, _⟩ | ⟨g', cap, cur, rfl, _, h2, _⟩
 · simp [Value.ownBlock] at hg
 · simp only [Value.ownBlock, Option.some.injEq] at hg
   subst hg
   exact ⟨cur, h2⟩
theorem own_ne2 {w : World} {B B' sz sz' : Nat} {e e' : TypeId} {v v' : Value} {n n' : Nat} {xs xs' : List Value} (h : w.ownsRow B e sz v n xs) (h' : w.ownsRow B' e' sz' v' n' xs') (hT : e ≠ e') (g : Nat) (hg : v.ownBlock = some g) : v'.ownBlock ≠ some g := fun hg' => by
 obtain ⟨c, h1⟩ := own_at h hg
 obtain ⟨c', h2⟩ := own_at h' hg'
 rw [h1] at h2
 simp only [Option.some.injEq, Obj.cells.injEq] at h2
 exact hT h2.2.1
theorem BatO.same {w w' : World} {base : Nat} {v : Value} {bs : List Bt} (h : BatO w base v bs) (hc : Chg [] w w') : BatO w' base v bs := by
 obtain ⟨us, h1, h2, h3⟩ := h
 exact ⟨us, h1, ownsRow_kept h2 fun g hg hl => hc.block g hl (by simp), fun i u b hu hb => ⟨(h3 i u b hu hb).1, (h3 i u b hu hb).2.same hc⟩⟩
theorem BatO.shape {w : World} {base : Nat} {v : Value} {bs : List Bt} (h : BatO w base v bs) : ∃ a cap, v = .slice a bs.length cap ∧ bs.length ≤ maxLen := by
 obtain ⟨us, h1, h2, h3⟩ := h
 obtain ⟨a, cap, rfl⟩ := ownsRow_shape h2
 refine ⟨a, cap, by rw [h1], ?_⟩
 rcases h2.2 with ⟨hv, hx⟩ | ⟨g, cap', cur', hv, hge, hh, h3, h4, h5, h6⟩
 · rw [← h1, hx]; simp
 · rw [← h1]; omega
theorem BatO.at {w : World} {base : Nat} {a : Option Addr} {n cap : Nat} {bs : List Bt} (h : BatO w base (.slice a n cap) bs) (i : Nat) (hi : i < bs.length) (d : Bt) :
 ∃ g u, a = some ⟨g, 0, none⟩ ∧ base ≤ g ∧ g < w.heap.size ∧ w.cell? ⟨g, i * 2, none⟩ = some (.int .i64 (bs.getD i d).1) ∧ w.cell? ⟨g, i * 2 + 1, none⟩ = some u ∧ OwnEv w base u (bs.getD i d).2 := by
 obtain ⟨us, h1, h2, h3⟩ := h
 rcases h2.2 with ⟨hv, hx⟩ | ⟨g, cap', cur', hv, hge, hh, _⟩
 · omega
 · simp only [Value.slice.injEq] at hv
   obtain ⟨rfl, rfl, rfl⟩ := hv
   have hiu : i < us.length := by omega
   obtain ⟨e0, e1⟩ := batCells_get us i hiu
   have hc : ∀ k u, (batCells us)[k]? = some u → w.cell? ⟨g, k, none⟩ = some u := by
    intro k u hk
    have := World.ownsRow.cells h2 (g := g) rfl k u hk
    rwa [Addr.add_lit, Nat.zero_add] at this
   obtain ⟨r1, r2⟩ := h3 i us[i] (bs.getD i d) (List.getElem?_eq_getElem hiu) (by rw [List.getD_eq_getElem?_getD, List.getElem?_eq_getElem hi]; rfl)
   exact ⟨g, _, rfl, hge, lt_of_obj hh, by rw [hc _ _ e0, r1], hc _ _ e1, r2⟩
theorem Tryz.infoBat : (Tryz.prog.info? 45).map (fun i => (i.zero, i.size, i.bytes)) = some (some (.agg #[.int .i64 0, .slice none 0 0]), 2, 32) := by kernel_rfl
theorem BatO.snoc {w w' : World} {base : Nat} {v v' : Value} {bs : List Bt} {t : Int} {u : Value} {es : List FEv} {us : List (Int × Value)} (h1 : us.length = bs.length) (h2 : w.ownsRow base 45 2 v us.length (batCells us))
 (h3 : ∀ (i : Nat) (u : Int × Value) (b : Bt), us[i]? = some u → bs[i]? = some b → u.1 = b.1 ∧ OwnEv w base u.2 b.2) (hu : OwnEv w base u es) (hn : w'.ownsRow base 45 2 v' (us.length + 1) (batCells us ++ [.int .i64 t, u])) (hc : Chg v.ownBlock.toList w w') : BatO w' base v' (bs ++ [(t, es)]) := by
 refine ⟨us ++ [(t, u)], by simp [h1], by rw [batCells_snoc, List.length_append]; exact hn, fun i x b hx hb => ?_⟩
 have hk : ∀ y l, OwnEv w base y l → OwnEv w' base y l := fun y l hy => OwnEv.kept hy hc.toP fun g hg hm => own_ne2 hy h2 (by decide) g hg (by simpa using hm)
 by_cases hi : i < us.length
 · rw [List.getElem?_append_left hi] at hx
   rw [List.getElem?_append_left (by omega)] at hb
   exact ⟨(h3 i x b hx hb).1, hk _ _ (h3 i x b hx hb).2⟩
 · by_cases he : i = us.length
   · subst he
     rw [List.getElem?_append_right (by omega)] at hx
     rw [h1, List.getElem?_append_right (by omega)] at hb
     simp at hx hb
     subst hx hb
     exact ⟨rfl, hk _ _ hu⟩
   · rw [List.getElem?_eq_none (by simp; omega)] at hx
     cases hx
theorem EvsP.sub {p : Nat → Prop} {w : World} {g off cap : Nat} {n : Nat} {E : List FEv} (h : EvsP p w (.slice (some ⟨g, off, none⟩) n cap) E) (st k : Nat) (h1 : st ≤ k) (h2 : k ≤ E.length) :
 EvsP p w (.slice (some ⟨g, off + st * 3, none⟩) (k - st) (cap - st)) ((E.take k).drop st) := by
 obtain ⟨a, c, hv, hl, hm, hc⟩ := h
 simp only [Value.slice.injEq] at hv
 obtain ⟨rfl, rfl, rfl⟩ := hv
 have hlen : ((E.take k).drop st).length = k - st := by simp; omega
 refine ⟨_, _, by rw [hlen], by omega, by omega, fun h0 => ?_⟩
 obtain ⟨g', off', he, hp, hr⟩ := hc (by omega)
 simp only [Option.some.injEq, Addr.mk.injEq, and_true] at he
 obtain ⟨rfl, rfl⟩ := he
 refine ⟨g, off + st * 3, rfl, hp, fun j hj => ?_⟩
 have := hr (st + j) (by omega)
 rw [show off + (st + j) * 3 = off + st * 3 + j * 3 by omega] at this
 rw [List.getElem_drop, List.getElem_take]
 exact this
theorem EvOk.sub {E : List FEv} (h : EvOk E) (st k : Nat) : EvOk ((E.take k).drop st) := by
 have hm : ∀ e ∈ (E.take k).drop st, e ∈ E := fun e he => List.mem_of_mem_take (List.mem_of_mem_drop he)
 exact ⟨by have := h.len; simp; omega, fun e he => h.kind e (hm e he), fun e he => h.time e (hm e he), (h.ord.sublist (List.take_sublist _ _)).sublist (List.drop_sublist _ _), fun e he => h.path e (hm e he)⟩
theorem bat_at (d : Int) (E : List FEv) (st k : Nat) (h1 : st ≤ k) (hk : k < E.length) :
 bat d ((E.take k).drop st) (E.drop k) = if k + 1 < E.length ∧ (E.getD (k + 1) ev0).1 - (E.getD k ev0).1 < d then bat d ((E.take (k + 1)).drop st) (E.drop (k + 1))
  else (if nbE ((E.take (k + 1)).drop st) = [] then [] else [((E.getD k ev0).1 + d, nbE ((E.take (k + 1)).drop st))]) ++ bat d [] (E.drop (k + 1)) := by
 have hs : (E.take (k + 1)).drop st = (E.take k).drop st ++ [E.getD k ev0] := by
  rw [fold_take_snoc E k hk ev0, List.drop_append_of_le_length (by simp; omega)]
 have hd : E.drop k = E.getD k ev0 :: E.drop (k + 1) := by
  rw [List.drop_eq_getElem_cons hk, List.getD_eq_getElem?_getD, List.getElem?_eq_getElem hk]; rfl
 rw [hd, bat, hs]
 have hl : (E.drop (k + 1)).length ≠ 0 ↔ k + 1 < E.length := by simp; omega
 have hh : k + 1 < E.length → (E.drop (k + 1)).headD (0, ByteArray.empty, 0) = E.getD (k + 1) ev0 := by
  intro h
  rw [List.drop_eq_getElem_cons h, List.getD_eq_getElem?_getD, List.getElem?_eq_getElem h]; rfl
 by_cases hc : k + 1 < E.length ∧ (E.getD (k + 1) ev0).1 - (E.getD k ev0).1 < d
 · rw [if_pos hc, if_pos ⟨hl.2 hc.1, by rw [hh hc.1]; exact hc.2⟩]
 · rw [if_neg hc, if_neg]
   rintro ⟨h2, h3⟩
   have h4 := hl.1 h2
   rw [hh h4] at h3
   exact hc ⟨h4, h3⟩
theorem last_sub (E : List FEv) (st k : Nat) (h1 : st ≤ k) (hk : k < E.length) : ((E.take (k + 1)).drop st).getLastD ev0 = E.getD k ev0 := by
 rw [fold_take_snoc E k hk ev0, List.drop_append_of_le_length (by simp; omega)]
 simp
def BatPost (E : List FEv) (d : Int) (w : World) (e : Ending) (w' : World) : Prop :=
 ∃ v, e = .returned (.tuple #[v, .int .i64 0]) ∧ BatO w' w.heap.size v (bat d [] E) ∧ Chg [] w w'
set_option maxRecDepth 100000 in
set_option maxHeartbeats 8000000 in
theorem batches_any (p : Nat → Prop) (w : World) (v : Value) (E : List FEv) (d : Int) (h : EvsP p w v E) (hE : EvOk E) (h0 : 0 ≤ d) (h1 : d ≤ 1000000) :
 Calls Tryz.prog 11 #[v, .int .i64 d] w (BatPost E d w) := by
 obtain ⟨a, cap, rfl, hml, hcp⟩ := h.shape
 have H := Lib.hid h
 have HE := Lib.hid hE
 have hl := hE.len
 have Hva := Lib.hid (validate_any p w _ E d h hE h0 h1)
 obtain ⟨i0, hi, hz0, hz1, hz2⟩ := info_parts Tryz.infoBat
 have Hi0 := Lib.hid hi
 have Hz0 := Lib.hid hz0
 have Hz1 := Lib.hid hz1
 have Hz2 := Lib.hid hz2
 unfold maxLen at hml
 clear h hE hi hz0 hz1 hz2
 go_enter Tryz.func11, Tryz.ntmps11
 go_wp2_with fail
 refine Hva.out.mono ?_
 rintro e w1 ⟨rfl, hc1⟩
 have Hc1 := Lib.hid hc1
 clear hc1 Hva
 go_wp2_with fail
 go_loopw [19, 7, 8] (fun jj bv sv wr => ∃ (k st : Nat) (acc : List Bt), k ≤ E.length ∧ st ≤ k ∧ jj = .int .i64 (k : Nat) ∧ sv = .int .i64 (st : Nat) ∧ acc.length ≤ k ∧ BatO wr w.heap.size bv acc ∧ Hid (bat d [] E = acc ++ bat d ((E.take k).drop st) (E.drop k)) ∧ Chg [] w wr) (fun jj _ _ _ => E.length - (intOf jj).toNat)
 case atStart => exact ⟨0, 0, [], by omega, by omega, rfl, rfl, by simp, BatO.nil _ _, Lib.hid (by simp), Hc1.out⟩
 case round =>
  obtain ⟨k, st, acc, hk, hst, rfl, rfl, hal, hB, hbat, hc⟩ := hrel
  by_cases hlt : k < E.length
  · have hk1 : (k : Int) < E.length := by omega
    obtain ⟨g, off, rfl, hp, c0, c1, c2⟩ := (H.out.same hc).cells k hlt
    have htm := HE.out.time _ (getD_memE hlt)
    have hba := bat_at d E st k hst hlt
    obtain ⟨t, ht⟩ : ∃ t, (E.getD k ev0).1 = t := ⟨_, rfl⟩
    have hls := last_sub E st k hst hlt
    rw [ht] at c0 htm hba
    by_cases hin : k + 1 < E.length
    · have hd1 : decide ((k : Int) + 1 < E.length) = true := decide_eq_true (by omega)
      obtain ⟨g', off', ha', hp', b0, b1, b2⟩ := (H.out.same hc).cells (k + 1) hin
      simp only [Option.some.injEq, Addr.mk.injEq, and_true] at ha'
      obtain ⟨rfl, rfl⟩ := ha'
      have htm2 := HE.out.time _ (getD_memE hin)
      obtain ⟨t2, ht2⟩ : ∃ t, (E.getD (k + 1) ev0).1 = t := ⟨_, rfl⟩
      rw [ht2] at b0 htm2 hba
      by_cases hd : t2 - t < d
      · have hd2 : decide (t2 - t < d) = true := decide_eq_true hd
        have hw1 : IntKind.i64.wrap (t2 - t) = t2 - t := IntWalk.i64_in _ (by omega)
        have hw2 : wrap64 (t2 - t) = t2 - t := by unfold wrap64; omega
        rw [if_pos ⟨hin, hd⟩] at hba
        have Hend := Lib.hid (And.intro hB (And.intro (hbat.out.trans (by rw [hba])) hc))
        clear hB hbat hba hc ht ht2 hls c1 c2 b1 b2
        go_wp2_with fail
        go_quiet (fail)
        go_wp2_with fail
        exact ⟨⟨k + 1, st, acc, by omega, by omega, by go_num, rfl, by omega, Hend.out.1.same ((Chg.refl [] wr).drewN _), Lib.hid Hend.out.2.1, Hend.out.2.2.drewN _⟩, by simp [intOf]; omega⟩
      · have hd2 : decide (t2 - t < d) = false := decide_eq_false hd
        have hw1 : IntKind.i64.wrap (t2 - t) = t2 - t := IntWalk.i64_in _ (by omega)
        have hw2 : wrap64 (t2 - t) = t2 - t := by unfold wrap64; omega
        rw [if_neg (fun hx => hd hx.2)] at hba
        have Hend := Lib.hid (And.intro hB (And.intro (hbat.out.trans (by rw [hba])) hc))
        have Hls := Lib.hid (And.intro hls ht)
        have hst1 : (st : Int) ≤ (k : Int) + 1 := by omega
        have hst2 : (k : Int) + 1 ≤ cap := by omega
        clear hB hbat hba hc ht ht2 b1 b2 hls c1 c2
        go_wp2_with fail
        go_quiet (fail)
        obtain ⟨wq, hwq⟩ : ∃ x, x = wr.drewN nq := ⟨_, rfl⟩
        have hcq : Chg [] wr wq := by rw [hwq]; exact (Chg.refl [] wr).drewN _
        rw [← hwq]
        have Hc := Lib.hid (Hend.out.2.2.trans hcq)
        have Hcq := Lib.hid hcq
        clear hwq hcq
        go_wp2_with fail
        refine (newBatch_any p wq _ ((E.take (k + 1)).drop st) d ((H.out.same Hc.out).sub st (k + 1) (by omega) (by omega)) (HE.out.sub _ _) (fun hx => by have := congrArg List.length hx; simp at this; omega) h0 h1).mono ?_
        rintro e w2 ⟨v', rfl, hv', hc2⟩
        rw [Hls.out.1, Hls.out.2]
        obtain ⟨N, hN⟩ : ∃ N, nbE ((E.take (k + 1)).drop st) = N := ⟨_, rfl⟩
        have hbt := Hend.out.2.1
        rw [hN] at hv' hbt
        obtain ⟨av, cv, rfl⟩ := ownsRow_shape hv'
        have hNl := hv'.evs.shape
        obtain ⟨_, _, _, hNm, _⟩ := hNl
        obtain ⟨w3, hw3⟩ : ∃ x, x = w2.alloc (.cells #[.int .i64 (t + d), .slice av N.length cv] 45) := ⟨_, rfl⟩
        have hc3 : Chg [] w2 w3 := by rw [hw3]; exact (Chg.refl [] w2).alloc _
        have hb3 : w3.heap[w2.heap.size]? = some (.cells #[.int .i64 (t + d), .slice av N.length cv] 45 (0, 0)) := by rw [hw3]; exact heap_at _ _ _ rfl
        have hvb : w.heap.size ≤ wq.heap.size := Hc.out.size
        have hv3 : OwnEv w3 w.heap.size (.slice av N.length cv) N := ownsRow_base (hv'.same hc3) hvb
        have hB3 := Hend.out.1.same (Hcq.out.trans (hc2.trans hc3))
        have hC3 := Hc.out.trans (hc2.trans hc3)
        by_cases hn : N = []
        · have hn0 : ¬ (0 : Int) < N.length := by rw [hn]; simp
          rw [if_pos hn, List.nil_append] at hbt
          have HN := Lib.hid (And.intro hB3 (And.intro hbt hC3))
          have Hw3 := Lib.hid hw3
          clear hv' hbt hN hNm hc2 hc3 hb3 hvb hv3 hB3 hC3 hw3 hn
          go_wp2_with fail
          rw [← Hw3.out]
          exact ⟨⟨k + 1, k + 1, acc, by omega, by omega, by go_num, by go_num, by omega, HN.out.1, Lib.hid (by rw [show List.drop (k + 1) (List.take (k + 1) E) = [] from List.drop_eq_nil_of_le (by simp; omega)]; exact HN.out.2.1), HN.out.2.2⟩, by simp [intOf]; omega⟩
        · have hn0 : (0 : Int) < N.length := by have := List.length_pos_iff.2 hn; omega
          rw [if_neg hn] at hbt
          obtain ⟨us, u1, u2, u3⟩ := hB3
          have Hu := Lib.hid (And.intro u1 (And.intro u2 u3))
          have Hw3 := Lib.hid hw3
          have HN := Lib.hid (And.intro hv3 (And.intro hbt (And.intro hC3 hb3)))
          have hul : us.length ≤ 1000 := by omega
          have hwb : w.heap.size ≤ w3.heap.size := hC3.size
          clear hv' hbt hN hNm hc2 hc3 hb3 hvb hv3 hC3 hw3 hn u1 u2 u3
          go_upto_region 12 with (fail)
          rw [← Hw3.out]
          have b0 : w3.cell? ⟨w2.heap.size, 0, none⟩ = some (.int .i64 (t + d)) := cell_of_heap HN.out.2.2.2 rfl
          have b1 : w3.cell? ⟨w2.heap.size, 1, none⟩ = some (.slice av N.length cv) := cell_of_heap HN.out.2.2.2 rfl
          go_wp2_with (at_builtin; refine wpList_append_own _ rfl _ _ 40 rfl w.heap.size 45 i0 (.agg #[.int .i64 0, .slice none 0 0]) 2 32 Tryz.underlying40 Hi0.out Hz0.out Hz1.out Hz2.out rfl (by decide) u7 us.length (batCells us) rfl (Hu.out.2.1.alloc _) ⟨w3.heap.size, 0, none⟩ 1 1 [.int .i64 (t + d), .slice av N.length cv] rfl rfl (news_of (heap_at _ _ _ (by simp))) (by simp [Value.oneCell']) (by unfold maxLen; omega) (by omega) (by simp; omega) ?_; intro v8 w8 hown8 hgr8 _)
          have hap := own_chg (World.ownsRow.alloc Hu.out.2.1 (.cells #[.int .i64 (t + d), .slice av N.length cv] 45)) hgr8
          have hcw : Chg [] w3 (w3.alloc (.cells #[.int .i64 (t + d), .slice av N.length cv] 45)) := (Chg.refl [] w3).alloc _
          have hBn := BatO.snoc (t := t + d) Hu.out.1 (World.ownsRow.alloc Hu.out.2.1 (.cells #[.int .i64 (t + d), .slice av N.length cv] 45)) (fun i u b hu hb => ⟨(Hu.out.2.2 i u b hu hb).1, (Hu.out.2.2 i u b hu hb).2.same hcw⟩) (HN.out.1.same hcw) hown8 hap.1
          have HB := Lib.hid (And.intro hBn ((HN.out.2.2.1.trans hcw).comp hap.1 fun x hx => Or.inr (hap.2 x hx)))
          clear hap hcw hBn hown8 hgr8 b0 b1
          go_wp2_with fail
          exact ⟨⟨k + 1, k + 1, acc ++ [(t + d, N)], by omega, by omega, by go_num, by go_num, by simp; omega, HB.out.1, Lib.hid (by rw [show List.drop (k + 1) (List.take (k + 1) E) = [] from List.drop_eq_nil_of_le (by simp; omega), List.append_assoc]; exact HN.out.2.1), HB.out.2⟩, by simp [intOf]; omega⟩
    · have hd1 : decide ((k : Int) + 1 < E.length) = false := decide_eq_false (by omega)
      rw [if_neg (fun hx => hin hx.1)] at hba
      have Hend := Lib.hid (And.intro hB (And.intro (hbat.out.trans (by rw [hba])) hc))
      have Hls := Lib.hid (And.intro hls ht)
      have hst1 : (st : Int) ≤ (k : Int) + 1 := by omega
      have hst2 : (k : Int) + 1 ≤ cap := by omega
      clear hB hbat hba hc ht hls c1 c2
      go_wp2_with fail
      go_quiet (fail)
      obtain ⟨wq, hwq⟩ : ∃ x, x = wr.drewN nq := ⟨_, rfl⟩
      have hcq : Chg [] wr wq := by rw [hwq]; exact (Chg.refl [] wr).drewN _
      rw [← hwq]
      have Hc := Lib.hid (Hend.out.2.2.trans hcq)
      have Hcq := Lib.hid hcq
      clear hwq hcq
      go_wp2_with fail
      refine (newBatch_any p wq _ ((E.take (k + 1)).drop st) d ((H.out.same Hc.out).sub st (k + 1) (by omega) (by omega)) (HE.out.sub _ _) (fun hx => by have := congrArg List.length hx; simp at this; omega) h0 h1).mono ?_
      rintro e w2 ⟨v', rfl, hv', hc2⟩
      rw [Hls.out.1, Hls.out.2]
      obtain ⟨N, hN⟩ : ∃ N, nbE ((E.take (k + 1)).drop st) = N := ⟨_, rfl⟩
      have hbt := Hend.out.2.1
      rw [hN] at hv' hbt
      obtain ⟨av, cv, rfl⟩ := ownsRow_shape hv'
      have hNl := hv'.evs.shape
      obtain ⟨_, _, _, hNm, _⟩ := hNl
      obtain ⟨w3, hw3⟩ : ∃ x, x = w2.alloc (.cells #[.int .i64 (t + d), .slice av N.length cv] 45) := ⟨_, rfl⟩
      have hc3 : Chg [] w2 w3 := by rw [hw3]; exact (Chg.refl [] w2).alloc _
      have hb3 : w3.heap[w2.heap.size]? = some (.cells #[.int .i64 (t + d), .slice av N.length cv] 45 (0, 0)) := by rw [hw3]; exact heap_at _ _ _ rfl
      have hvb : w.heap.size ≤ wq.heap.size := Hc.out.size
      have hv3 : OwnEv w3 w.heap.size (.slice av N.length cv) N := ownsRow_base (hv'.same hc3) hvb
      have hB3 := Hend.out.1.same (Hcq.out.trans (hc2.trans hc3))
      have hC3 := Hc.out.trans (hc2.trans hc3)
      by_cases hn : N = []
      · have hn0 : ¬ (0 : Int) < N.length := by rw [hn]; simp
        rw [if_pos hn, List.nil_append] at hbt
        have HN := Lib.hid (And.intro hB3 (And.intro hbt hC3))
        have Hw3 := Lib.hid hw3
        clear hv' hbt hN hNm hc2 hc3 hb3 hvb hv3 hB3 hC3 hw3 hn
        go_wp2_with fail
        rw [← Hw3.out]
        exact ⟨⟨k + 1, k + 1, acc, by omega, by omega, by go_num, by go_num, by omega, HN.out.1, Lib.hid (by rw [show List.drop (k + 1) (List.take (k + 1) E) = [] from List.drop_eq_nil_of_le (by simp; omega)]; exact HN.out.2.1), HN.out.2.2⟩, by simp [intOf]; omega⟩
      · have hn0 : (0 : Int) < N.length := by have := List.length_pos_iff.2 hn; omega
        rw [if_neg hn] at hbt
        obtain ⟨us, u1, u2, u3⟩ := hB3
        have Hu := Lib.hid (And.intro u1 (And.intro u2 u3))
        have Hw3 := Lib.hid hw3
        have HN := Lib.hid (And.intro hv3 (And.intro hbt (And.intro hC3 hb3)))
        have hul : us.length ≤ 1000 := by omega
        have hwb : w.heap.size ≤ w3.heap.size := hC3.size
        clear hv' hbt hN hNm hc2 hc3 hb3 hvb hv3 hC3 hw3 hn u1 u2 u3
        go_upto_region 12 with (fail)
        rw [← Hw3.out]
        have b0 : w3.cell? ⟨w2.heap.size, 0, none⟩ = some (.int .i64 (t + d)) := cell_of_heap HN.out.2.2.2 rfl
        have b1 : w3.cell? ⟨w2.heap.size, 1, none⟩ = some (.slice av N.length cv) := cell_of_heap HN.out.2.2.2 rfl
        go_wp2_with (at_builtin; refine wpList_append_own _ rfl _ _ 40 rfl w.heap.size 45 i0 (.agg #[.int .i64 0, .slice none 0 0]) 2 32 Tryz.underlying40 Hi0.out Hz0.out Hz1.out Hz2.out rfl (by decide) u7 us.length (batCells us) rfl (Hu.out.2.1.alloc _) ⟨w3.heap.size, 0, none⟩ 1 1 [.int .i64 (t + d), .slice av N.length cv] rfl rfl (news_of (heap_at _ _ _ (by simp))) (by simp [Value.oneCell']) (by unfold maxLen; omega) (by omega) (by simp; omega) ?_; intro v8 w8 hown8 hgr8 _)
        have hap := own_chg (World.ownsRow.alloc Hu.out.2.1 (.cells #[.int .i64 (t + d), .slice av N.length cv] 45)) hgr8
        have hcw : Chg [] w3 (w3.alloc (.cells #[.int .i64 (t + d), .slice av N.length cv] 45)) := (Chg.refl [] w3).alloc _
        have hBn := BatO.snoc (t := t + d) Hu.out.1 (World.ownsRow.alloc Hu.out.2.1 (.cells #[.int .i64 (t + d), .slice av N.length cv] 45)) (fun i u b hu hb => ⟨(Hu.out.2.2 i u b hu hb).1, (Hu.out.2.2 i u b hu hb).2.same hcw⟩) (HN.out.1.same hcw) hown8 hap.1
        have HB := Lib.hid (And.intro hBn ((HN.out.2.2.1.trans hcw).comp hap.1 fun x hx => Or.inr (hap.2 x hx)))
        clear hap hcw hBn hown8 hgr8 b0 b1
        go_wp2_with fail
        exact ⟨⟨k + 1, k + 1, acc ++ [(t + d, N)], by omega, by omega, by go_num, by go_num, by simp; omega, HB.out.1, Lib.hid (by rw [show List.drop (k + 1) (List.take (k + 1) E) = [] from List.drop_eq_nil_of_le (by simp; omega), List.append_assoc]; exact HN.out.2.1), HB.out.2⟩, by simp [intOf]; omega⟩
  · obtain rfl : k = E.length := by omega
    have hk1 : ¬ ((E.length : Int) < E.length) := by omega
    have hbt := hbat.out
    rw [List.drop_length, bat, List.append_nil] at hbt
    have HN := Lib.hid (And.intro hB (And.intro hbt hc))
    clear hB hbat hc hbt
    go_wp2_with fail
    go_ret2
    exact ⟨_, rfl, by rw [HN.out.2.1]; exact HN.out.1, HN.out.2.2⟩
end Go.Proofs.YtjlknaahpjiibaaGreatDoor.F
