/- Part of the proof of topCrashedLaw_holds. -/
import Derived.Deep.DeepCutAuto
import Derived.Test.YtjlknaahpjiibaaGreatDoorQaa
import Derived.Test.YtjlknaahpjiibaaGreatDoorQam
namespace Go.Proofs.YtjlknaahpjiibaaGreatDoor.J
open Go.RowKit Go.ChangeMaps Go.MapKept Go.Shelf Go.Lib Go.Sort
set_option linter.unusedVariables false
set_option linter.unusedSimpArgs false
def sk (s : ByteArray) : Value := .string s
def recV (r : Rec) : Value := .agg #[.string r.key, .string r.val, .bool r.del]
def esOf (E : List (ByteArray × Rec)) : List (ByteArray × Value) := E.map fun p => (p.1, recV p.2)
theorem skInj (x y : ByteArray) (h : sk x = sk y) : x = y := by unfold sk at h; simpa using h
theorem skOk (s : ByteArray) (h : s.size ≤ maxLen) : KeyOk Tryz.prog 9 (sk s) := by
 unfold KeyOk sk
 simp [keyOf, Tryz.underlying9, mapKey]
 exact h
theorem skeyed : Go.Maps.Keyed Tryz.prog 9 := Go.Maps.string_keyed Tryz.underlying9
theorem esOf_ups (E : List (ByteArray × Rec)) (k : ByteArray) (r : Rec) : ups (esOf E) k (recV r) = esOf (ups E k r) := by
 unfold esOf
 induction E with
 | nil => rfl
 | cons p E ih =>
   simp only [List.map_cons, ups]
   split
   · rfl
   · rw [ih]; rfl
theorem mapOf_len (rs : List Rec) : (mapOf rs).length ≤ rs.length := by
 obtain ⟨n, hn⟩ : ∃ n, n = rs.length := ⟨_, rfl⟩
 induction n generalizing rs with
 | zero => rw [List.eq_nil_of_length_eq_zero hn.symm]; simp [mapOf]
 | succ n ih =>
   obtain ⟨l, r, rfl⟩ : ∃ l r, rs = l ++ [r] := ⟨rs.dropLast, rs.getLast (by intro h; rw [h] at hn; simp at hn), (List.dropLast_concat_getLast _).symm⟩
   rw [mapOf_snoc]
   have h1 := length_ups_le (mapOf l) r.key r
   have h2 := ih l (by simp at hn; omega)
   simp only [List.length_append, List.length_cons, List.length_nil]
   omega
theorem Recs.shape {w : World} {v : Value} {rs : List Rec} (h : Recs w v rs) : ∃ a cap, v = .slice a rs.length cap ∧ rs.length ≤ maxLen ∧ ∀ i, i < rs.length → ∃ g off, a = some ⟨g, off, none⟩ ∧ w.cell? ⟨g, off + i * 3, none⟩ = some (.string (rs.getD i Rec.zero).key) ∧ w.cell? ⟨g, off + i * 3 + 1, none⟩ = some (.string (rs.getD i Rec.zero).val) ∧ w.cell? ⟨g, off + i * 3 + 2, none⟩ = some (.bool (rs.getD i Rec.zero).del) := by
 rcases h with ⟨a, cap, rfl, rfl⟩ | ⟨g, off, cap, rfl, h1, h2, h3⟩
 · exact ⟨a, cap, rfl, by simp, fun i hi => by simp at hi⟩
 · exact ⟨_, cap, rfl, h2, fun i hi => ⟨g, off, rfl, h3 i hi⟩⟩
def StatePost (rs : List Rec) (w : World) (e : Ending) (w' : World) : Prop :=
 ∃ v st, e = .returned v ∧ IsState rs st ∧ Recs w' v st ∧ st.length ≤ rs.length ∧ Chg [] w w'
structure StI (E : List (ByteArray × Rec)) (w : World) (bm r : Nat) (wr : World) (v : Value) (rest : List (ByteArray × Value)) (sl : List Rec) : Prop where
 rng : RangeAt Tryz.prog 9 sk wr bm r (esOf E) rest
 own : OwnRecs wr (r + 1) v sl
 chg : Chg [] w wr
 perm : ∃ R : List Rec, (rest.map (·.2)).Perm (R.map recV) ∧ (sl ++ R.filter fun r => !r.del).Perm ((E.map (·.2)).filter fun r => !r.del)
 new : w.heap.size ≤ bm ∧ bm < r ∧ r < wr.heap.size
theorem perm_mid {Ra Rb : List Rec} {r0 : Rec} {rest rest' : List (ByteArray × Value)} {k : ByteArray} (hp : rest.Perm ((k, recV r0) :: rest')) (h : (rest.map (·.2)).Perm ((Ra ++ r0 :: Rb).map recV)) : (rest'.map (·.2)).Perm ((Ra ++ Rb).map recV) := by
 have h1 : (recV r0 :: rest'.map (·.2)).Perm (recV r0 :: (Ra ++ Rb).map recV) := by
  refine ((hp.map (·.2)).symm.trans h).trans ?_
  rw [List.map_append, List.map_cons, List.map_append]
  exact List.perm_middle
 exact h1.cons_inv
theorem filt_mid (Ra Rb : List Rec) (r0 : Rec) : ((Ra ++ r0 :: Rb).filter fun r => !r.del).Perm ((if r0.del then [] else [r0]) ++ (Ra ++ Rb).filter fun r => !r.del) := by
 rw [List.filter_append, List.filter_cons, List.filter_append]
 cases r0.del
 · simp only [Bool.not_false, if_true, Bool.false_eq_true, if_false]
   exact List.perm_middle
 · simp
theorem StI.fin {rs : List Rec} {w : World} {bm r : Nat} {wr : World} {v : Value} {sl st : List Rec} (h : StI (mapOf rs) w bm r wr v [] sl) (hp : st.Perm sl) (hs : st.Pairwise fun a b => ¬ cfR b a < 0) : IsState rs st ∧ st.length ≤ rs.length := by
 obtain ⟨R, h1, h2⟩ := h.perm
 have hR : R = [] := by
  have := h1.length_eq
  simp at this
  exact List.eq_nil_of_length_eq_zero this.symm
 subst hR
 simp only [List.filter_nil, List.append_nil] at h2
 refine ⟨IsState.make (rest := []) (hp.trans h2) (nodup_mapOf rs) hs, ?_⟩
 have e1 := (hp.trans h2).length_eq
 have e2 : (((mapOf rs).map (·.2)).filter (fun r => !r.del)).length ≤ ((mapOf rs).map (·.2)).length := List.length_filter_le _ _
 rw [List.length_map] at e2
 have := mapOf_len rs
 omega
set_option maxRecDepth 100000 in
set_option maxHeartbeats 8000000 in
theorem state_any (w : World) (v : Value) (rs : List Rec) (h : Recs w v rs) (hn : rs.length ≤ 20000) (hks : ∀ r ∈ rs, r.key.size ≤ maxLen) : Calls Tryz.prog 34 #[v] w (StatePost rs w) := by
 obtain ⟨a, cap, rfl, hml, _⟩ := h.shape
 have H := Lib.hid h
 have Hks := Lib.hid hks
 obtain ⟨i0, hi, hz0, hz1, hz2⟩ := info_parts Tryz.infoRec
 have Hi0 := Lib.hid hi
 have Hz0 := Lib.hid hz0
 have Hz1 := Lib.hid hz1
 have Hz2 := Lib.hid hz2
 have hmm := @run_makeMap Tryz.prog
 obtain ⟨w1, hw1⟩ : ∃ x, x = w.alloc (.map #[] 0) := ⟨_, rfl⟩
 have hc1 : Chg [] w w1 := by rw [hw1]; exact (Chg.refl [] w).alloc _
 have hm1 : MapAt Tryz.prog 9 sk w1 w.heap.size (esOf []) := by rw [hw1]; exact MapAt.made _ _ _ _
 have Hc1 := Lib.hid hc1
 have Hm1 := Lib.hid hm1
 unfold maxLen at hml
 clear h hc1 hm1 hks hi hz0 hz1 hz2
 go_enter Tryz.func34, Tryz.ntmps34
 go_wp2_with fail
 rw [← hw1]
 clear hw1
 go_loopw [12] (fun jj wr => ∃ k : Nat, k ≤ rs.length ∧ jj = .int .i64 (k : Nat) ∧ MapAt Tryz.prog 9 sk wr w.heap.size (esOf (mapOf (rs.take k))) ∧ Chg [] w wr) (fun jj _ => rs.length - (intOf jj).toNat)
 case atStart => exact ⟨0, by omega, rfl, Hm1.out, Hc1.out⟩
 case round =>
  obtain ⟨k, hk, rfl, hm, hc⟩ := hrel
  have Hc := Lib.hid hc
  have Hm := Lib.hid hm
  by_cases hlt : k < rs.length
  · have hk1 : (k : Int) < rs.length := by omega
    obtain ⟨_, _, hv, _, hcells⟩ := H.out.shape
    obtain ⟨g, off, rfl, c0, c1, c2⟩ := hcells k hlt
    simp only [Value.slice.injEq] at hv
    obtain ⟨rfl, _⟩ := hv
    obtain ⟨r, hr⟩ : ∃ r, rs.getD k Rec.zero = r := ⟨_, rfl⟩
    rw [hr] at c0 c1 c2
    have lg := lt_of_cell c0
    have q0 := (hc.cell (p := ⟨g, off + k * 3, none⟩) lg (by simp)).trans c0
    have q1 := (hc.cell (p := ⟨g, off + k * 3 + 1, none⟩) lg (by simp)).trans c1
    have q2 := (hc.cell (p := ⟨g, off + k * 3 + 2, none⟩) lg (by simp)).trans c2
    have lq := lt_of_cell q0
    have htk : rs.take (k + 1) = rs.take k ++ [r] := by rw [List.take_succ_eq_append_getElem hlt, ← hr, List.getD_eq_getElem?_getD, List.getElem?_eq_getElem hlt]; rfl
    have hrm : r ∈ rs := by rw [← hr, List.getD_eq_getElem?_getD, List.getElem?_eq_getElem hlt]; simp
    obtain ⟨w2, hw2⟩ : ∃ x, x = wr.alloc (recO r) := ⟨_, rfl⟩
    have hc2 : Chg [] wr w2 := by rw [hw2]; exact (Chg.refl [] wr).alloc _
    have hb2 : w2.heap[wr.heap.size]? = some (recO r) := by rw [hw2]; exact heap_at _ _ _ rfl
    have e0 : w2.cell? ⟨wr.heap.size, 0, none⟩ = some (.string r.key) := cell_of_heap hb2 rfl
    have e1 : w2.cell? ⟨wr.heap.size, 1, none⟩ = some (.string r.val) := cell_of_heap hb2 rfl
    have e2 : w2.cell? ⟨wr.heap.size, 2, none⟩ = some (.bool r.del) := cell_of_heap hb2 rfl
    have le := lt_of_cell e0
    obtain ⟨o, hup, hmu⟩ := (hm.kept hc2 (by simp)).update skeyed skInj Tryz.underlying126 (skOk r.key (Hks.out r hrm)) (recV r)
    rw [esOf_ups, ← mapOf_snoc, ← htk] at hmu
    have hup' : (Instr.mapUpdate 126 (.map (some w.heap.size)) (.string r.key) (.agg #[.string r.key, .string r.val, .bool r.del])).run Tryz.prog (wr.alloc (.cells #[.string r.key, .string r.val, .bool r.del] 78)) = .ok () (setBlock w2 w.heap.size o) := by
     have e : wr.alloc (.cells #[.string r.key, .string r.val, .bool r.del] 78) = w2 := hw2.symm
     rw [e]; exact hup
    have Hmu := Lib.hid hmu
    have Hc2 := Lib.hid hc2
    have Hr := Lib.hid hr
    clear hw2 hup hmu hc2 hb2 hm hc htk hcells c0 c1 c2 lg hr e0 e1 e2 le
    go_wp2_with fail
    go_roundw
    case rel => exact ⟨k + 1, by omega, by go_num, Hmu.out, (Hc.out.trans Hc2.out).setBlock (Or.inr (Nat.le_refl _)) _⟩
    case measure => simp [intOf]; omega
  · obtain rfl : k = rs.length := by omega
    have hk1 : ¬ ((rs.length : Int) < rs.length) := by omega
    obtain ⟨wo, rfl⟩ : ∃ x, x = wr := ⟨_, rfl⟩
    have hml2 : (mapOf (rs.take rs.length)) = mapOf rs := by rw [List.take_length]
    rw [hml2] at hm
    obtain ⟨o, hrg, hra⟩ := hm.range Tryz.underlying126
    have hc3 : Chg [] wo (wo.alloc o) := (Chg.refl [] wo).alloc o
    have hI0 : StI (mapOf rs) w w.heap.size wo.heap.size (wo.alloc o) (.slice none 0 0) (esOf (mapOf rs)) [] :=
     ⟨hra, OwnRecs.nil _ _, hc.trans hc3, ⟨(mapOf rs).map (·.2), by unfold esOf; rw [List.map_map, List.map_map]; exact List.Perm.refl _, by simp⟩, ⟨Nat.le_refl _, hm.lt, by simp⟩⟩
    have HI0 := Lib.hid hI0
    clear hm hra hc3 hI0 hc
    go_wp2_with fail
    clear hrg
    go_loopw [6] (fun vx wx => ∃ rest sl, StI (mapOf rs) w w.heap.size wo.heap.size wx vx rest sl) (fun _ wx => wx.rangeLeft w.heap.size wo.heap.size)
    case atStart => exact ⟨_, [], HI0.out⟩
    case round =>
     obtain ⟨rest, sl, hI⟩ := hrel
     have hslen : sl.length ≤ 20000 := by
      obtain ⟨R, hp1, hp2⟩ := hI.perm
      have g1 := hp2.length_eq
      have g2 : (((mapOf rs).map (·.2)).filter (fun r => !r.del)).length ≤ ((mapOf rs).map (·.2)).length := List.length_filter_le _ _
      rw [List.length_map] at g2
      rw [List.length_append] at g1
      have := mapOf_len rs
      omega
     rcases hI.rng.next 0 with ⟨rfl, hrun⟩ | ⟨key, val, rest', w4, hperm, hrun, hra1, hch1, hsz1, hcell1, hfz1, hent⟩
     · have hown := hI.own
       have hfin := fun st hp hs => hI.fin (st := st) hp hs
       have hchg := hI.chg
       have hnew := hI.new
       obtain ⟨av, cv, hav⟩ : ∃ av cv, u6 = .slice av sl.length cv := by
        rcases hown.2 with ⟨e, h0⟩ | ⟨g, cap, cur, e, _⟩
        · exact ⟨none, 0, by rw [e, h0]⟩
        · exact ⟨_, _, e⟩
       subst hav
       have Hfin := Lib.hid hfin
       have Hchg := Lib.hid hchg
       have Hown := Lib.hid hown
       have Hnew := Lib.hid hnew
       by_cases h0 : sl = []
       · subst h0
         clear hI hfin hchg hown hnew HI0 Hm Hc Hm1 Hc1 H Hks
         go_wp2_with fail
         refine (AnyF.slices_SortFunc_none (P := Tryz.prog) (ρ := Tryz.sortRecs_ren) { Tryz.sortRecs with } av cv _ _).mono ?_
         rintro e w' ⟨rfl, rfl⟩
         go_wp2_with fail
         go_ret
         obtain ⟨f1, f2⟩ := Hfin.out [] (List.Perm.refl _) List.Pairwise.nil
         exact ⟨_, [], rfl, f1, .inl ⟨av, cv, rfl, rfl⟩, by simp, Hchg.out⟩
       · have hpos : 0 < sl.length := List.length_pos_iff.2 h0
         obtain ⟨blk, cur, rfl, hge, hh, hc1', hc2'⟩ : ∃ blk cur, av = some ⟨blk, 0, none⟩ ∧ wo.heap.size + 1 ≤ blk ∧ wr.heap[blk]? = some (.cells cur 78 (0, 0)) ∧ sl.length ≤ cv ∧ sl.length ≤ maxLen := by
          rcases hown.2 with ⟨e, hz⟩ | ⟨g', cap', cur', hv, g1, g2, g3, g4, _⟩
          · omega
          · simp only [Value.slice.injEq] at hv
            obtain ⟨rfl, _, rfl⟩ := hv
            exact ⟨g', cur', rfl, g1, g2, g3, by omega⟩
         have hso := sortRecs_any (cap := cv) sl.toArray (holds_recs hown) (lt_of_obj hh) (by simp; omega)
         simp only [List.size_toArray] at hso
         have Hso := Lib.hid hso
         have Hb := Lib.hid (And.intro hge (And.intro hc1' hc2'))
         clear hso hge hh hc1' hc2' hI hfin hchg hown hnew HI0 Hm Hc Hm1 Hc1 H Hks
         go_wp2_with fail
         refine Hso.out.mono ?_
         rintro e w5 ⟨rfl, a', hs, hp, hsrt, hH, hcc⟩
         have Hall := Lib.hid (And.intro hs (And.intro hp (And.intro hsrt (And.intro hH hcc))))
         clear hs hp hsrt hH hcc
         go_wp2_with fail
         go_ret
         obtain ⟨hs, hp, hsrt, hH, hcc⟩ := Hall.out
         have hR := recs_holds (cap := cv) hH (by rw [hs]; exact Hb.out.2.1) (by rw [hs]; exact Hb.out.2.2)
         rw [hs] at hR
         obtain ⟨f1, f2⟩ := Hfin.out a'.toList hp (by
          rw [List.pairwise_iff_getElem]
          intro i j hi hj hij
          have hj' : j < sl.length := by rw [← hs]; simpa using hj
          have := hsrt i j hij hj'
          rw [getElem!_pos a' i (by omega), getElem!_pos a' j (by omega)] at this
          simpa using this)
         exact ⟨_, a'.toList, rfl, f1, hR, f2, Hchg.out.comp hcc (fun g hg => Or.inr (by have h1 := Hb.out.1; have h2 := Hnew.out; rw [List.mem_singleton.1 hg]; omega))⟩
     · obtain ⟨R, hp1, hp2⟩ := hI.perm
       have hvm : val ∈ R.map recV := hp1.mem_iff.1 (List.mem_map.2 ⟨(key, val), hperm.mem_iff.2 (by simp), rfl⟩)
       obtain ⟨r0, hr0, rfl⟩ := List.mem_map.1 hvm
       obtain ⟨Ra, Rb, rfl⟩ := List.append_of_mem hr0
       have hp3 := perm_mid hperm hp1
       have hp4 := (List.Perm.append_left sl (filt_mid Ra Rb r0)).symm.trans hp2
       have hnew := hI.new
       have hlt4 : rest'.length < rest.length := by have := hperm.length_eq; simp only [List.length_cons] at this; omega
       have hl0 := hI.rng.left_eq
       have hown4 : OwnRecs w4 (wo.heap.size + 1) _ sl := ownsRow_kept hI.own hch1 (fun g hg hm => by rw [List.mem_singleton] at hm; omega)
       have hchg4 : Chg [] w w4 := hI.chg.comp hch1 (fun g hg => by rw [List.mem_singleton] at hg; exact Or.inr (by omega))
       have hb4 : wo.heap.size + 1 ≤ w4.heap.size := by omega
       have hll : ∀ wx v sl', StI (mapOf rs) w w.heap.size wo.heap.size wx v rest' sl' → wx.rangeLeft w.heap.size wo.heap.size < wr.rangeLeft w.heap.size wo.heap.size := fun wx v sl' h => by rw [h.rng.left_eq, hl0]; exact hlt4
       have Hll := Lib.hid hll
       obtain ⟨k0, v0, dl⟩ := r0
       cases dl with
       | true =>
         have hI5 : StI (mapOf rs) w w.heap.size wo.heap.size (w4.alloc (.cells #[.string k0, .string v0, .bool true] 78)) u6 rest' sl :=
          ⟨hra1.kept ((Chg.refl [] w4).alloc _) (by simp) (by simp), OwnRecs.same hown4 ((Chg.refl [] w4).alloc _), hchg4.alloc _, ⟨Ra ++ Rb, hp3, by simpa using hp4⟩, ⟨hnew.1, hnew.2.1, by simp; omega⟩⟩
         have HI5 := Lib.hid hI5
         unfold sk recV at hrun hent
         simp only at hrun hent
         clear hI hp1 hp2 hp3 hp4 hvm hr0 hperm hown4 hchg4 hI5 hra1 hch1 hnew hl0 hlt4 hll HI0 Hm Hc Hm1 Hc1 H Hks hcell1 hfz1 hsz1
         go_wp2_with fail
         go_roundw
         case rel => exact ⟨rest', sl, HI5.out⟩
         case measure => exact Hll.out _ _ _ HI5.out
       | false =>
         have Hra := Lib.hid hra1
         have Hown := Lib.hid (show w4.ownsRow (wo.heap.size + 1) 78 3 u6 sl.length (recVals sl) from hown4)
         have Hchg := Lib.hid hchg4
         have Hnew := Lib.hid hnew
         have Hp := Lib.hid (And.intro hp3 hp4)
         unfold sk recV at hrun hent
         simp only at hrun hent
         clear hI hp1 hp2 hp3 hp4 hvm hr0 hperm hown4 hchg4 hra1 hch1 hnew hl0 hlt4 hll HI0 Hm Hc Hm1 Hc1 H Hks hcell1 hfz1 hsz1
         go_wp2_with (at_builtin; refine wpList_append_own _ rfl _ _ 83 rfl (wo.heap.size + 1) 78 i0 (.agg #[.string ⟨#[]⟩, .string ⟨#[]⟩, .bool false]) 3 40 Tryz.underlying83 Hi0.out Hz0.out Hz1.out Hz2.out rfl (by decide) u6 sl.length (recVals sl) rfl ((World.ownsRow.alloc Hown.out _).alloc _) ⟨w4.heap.size + 1, 0, none⟩ 1 1 [.string k0, .string v0, .bool false] rfl rfl (news_of (heap_at _ _ _ (by simp))) (by simp [Value.oneCell']) (by unfold maxLen; omega) (by omega) (by simp; omega) ?_; intro v8 w8 hown8 hgr8 _)
         have hap := own_chg ((World.ownsRow.alloc Hown.out (.cells #[.string k0, .string v0, .bool false] 78)).alloc (.cells #[.string k0, .string v0, .bool false] 78)) hgr8
         have hc6 : Chg [] w4 ((w4.alloc (.cells #[.string k0, .string v0, .bool false] 78)).alloc (.cells #[.string k0, .string v0, .bool false] 78)) := ((Chg.refl [] w4).alloc _).alloc _
         have hI8 : StI (mapOf rs) w w.heap.size wo.heap.size w8 v8 rest' (sl ++ [⟨k0, v0, false⟩]) := by
          have hn := Hnew.out
          refine ⟨(Hra.out.kept hc6 (by simp) (by simp)).kept hap.1 (fun hm => by have := hap.2 _ hm; omega) (fun hm => by have := hap.2 _ hm; omega), ?_, (Hchg.out.trans hc6).comp hap.1 (fun g hg => Or.inr (by have := hap.2 g hg; omega)), ⟨Ra ++ Rb, Hp.out.1, by rw [List.append_assoc]; simpa using Hp.out.2⟩, ⟨hn.1, hn.2.1, ?_⟩⟩
          · unfold OwnRecs
            rw [recVals_snoc, List.length_append]
            exact hown8
          · have h1 := hc6.size
            have h2 := hap.1.size
            omega
         have HI8 := Lib.hid hI8
         clear hown8 hgr8 hap hc6 hI8
         go_wp2_with fail
         go_roundw
         case rel => exact ⟨rest', _, HI8.out⟩
         case measure => exact Hll.out _ _ _ HI8.out
end Go.Proofs.YtjlknaahpjiibaaGreatDoor.J
