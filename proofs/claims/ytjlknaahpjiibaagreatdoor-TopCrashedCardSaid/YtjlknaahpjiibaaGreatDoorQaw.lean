/- Part of the proof of topCrashedLaw_holds. -/
import Derived.Laws.StructEq
import Derived.Deep.RegionLaw
import Derived.Laws.AppendOwn
import Derived.Deep.DeepCutAuto
import Derived.Test.YtjlknaahpjiibaaGreatDoorQaa
import Derived.Test.YtjlknaahpjiibaaGreatDoorQau
import Derived.Test.YtjlknaahpjiibaaGreatDoorQav
namespace Go.Proofs.YtjlknaahpjiibaaGreatDoor.F
open Go.RowKit Go.ChangeMaps Go.MapKept Go.Shelf
set_option linter.unusedVariables false
set_option linter.unusedSimpArgs false
theorem StrsP.shape {p : Nat → Prop} {w : World} {v : Value} {xs : List ByteArray} (h : StrsP p w v xs) : ∃ a cap, v = .slice a xs.length cap ∧ xs.length ≤ maxLen ∧ xs.length ≤ cap := SlR.shape h
set_option maxHeartbeats 4000000 in
theorem eqStrs_any (p q : Nat → Prop) (w : World) (v1 v2 : Value) (E : List ByteArray) (h1 : StrsP p w v1 E) (h2 : StrsP q w v2 E) :
 Calls Tryz.prog 16 #[v1, v2] w fun e w' => e = .returned (.bool true) ∧ Chg [] w w' := by
 obtain ⟨a1, cap1, rfl, hml, hcp1⟩ := h1.shape
 obtain ⟨a2, cap2, rfl, _, hcp2⟩ := h2.shape
 have H1 := Lib.hid h1
 have H2 := Lib.hid h2
 unfold maxLen at hml
 clear h1 h2
 go_enter Tryz.func16, Tryz.ntmps16
 go_wp2_with fail
 go_loopw [14] (fun i wr => ∃ k : Nat, k ≤ E.length ∧ i = .int .i64 (k : Nat) ∧ Chg [] w wr) (fun i _ => E.length - (intOf i).toNat)
 case atStart => exact ⟨0, by omega, rfl, Chg.refl _ _⟩
 case round =>
  obtain ⟨k, hk, rfl, hc⟩ := hrel
  by_cases hlt : k < E.length
  · obtain ⟨g, off, rfl, hp, c0⟩ := (H1.out.same hc).cell k hlt
    obtain ⟨g2, off2, rfl, hp2, d0⟩ := (H2.out.same hc).cell k hlt
    obtain ⟨x, hr⟩ : ∃ r, E.getD k ⟨#[]⟩ = r := ⟨_, rfl⟩
    rw [hr] at c0 d0
    have Hc := Lib.hid hc
    have hk1 : (k : Int) < E.length := by omega
    clear hr hc
    go_wp2_with fail
    exact ⟨⟨k + 1, by omega, by go_num, Hc.out⟩, by simp [intOf]; omega⟩
  · obtain rfl : k = E.length := by omega
    have hk1 : ¬ ((E.length : Int) < E.length) := by omega
    have Hc := Lib.hid hc
    clear hc
    go_wp2_with fail
    go_ret
    exact ⟨rfl, Hc.out⟩
structure TimOk (E : List FEv) (now : Int) : Prop where
 len : E.length ≤ 40
 kind : ∀ e ∈ E, 1 ≤ e.2.2 ∧ e.2.2 ≤ 3
 time : ∀ e ∈ E, 0 ≤ e.1 ∧ e.1 ≤ now
 ord : E.Pairwise fun a b => a.1 ≤ b.1
 path : ∀ e ∈ E, e.2.1.size ≤ maxLen
theorem TimOk.ok {E : List FEv} {now : Int} (h : TimOk E now) (hn : now ≤ 1000000) : EvOk E :=
 ⟨by have := h.len; omega, fun e he => by have := h.kind e he; unfold vk; simp; omega, fun e he => by have := h.time e he; omega, h.ord, h.path⟩
theorem TimOk.snoc {E : List FEv} {now t k : Int} {pa : ByteArray} (h : TimOk E now) (hn : now ≤ t) (h0 : 0 ≤ t) (hl : E.length < 40) (hk : 1 ≤ k ∧ k ≤ 3) (hp : pa.size ≤ maxLen) : TimOk (E ++ [(t, pa, k)]) t := by
 refine ⟨by simp; omega, fun e he => ?_, fun e he => ?_, ?_, fun e he => ?_⟩
 · rcases List.mem_append.1 he with he | he
   · exact h.kind e he
   · rw [List.mem_singleton.1 he]; exact hk
 · rcases List.mem_append.1 he with he | he
   · have := h.time e he; omega
   · rw [List.mem_singleton.1 he]; exact ⟨h0, Int.le_refl _⟩
 · rw [List.pairwise_append]
   refine ⟨h.ord, by simp, fun a ha b hb => ?_⟩
   rw [List.mem_singleton.1 hb]
   have := h.time a ha
   show a.1 ≤ t
   omega
 · rcases List.mem_append.1 he with he | he
   · exact h.path e he
   · rw [List.mem_singleton.1 he]; exact hp
def rdBat (p : Nat → Prop) (w : World) (ad : Addr) (b : Bt) : Prop := w.cell? ad = some (.int .i64 b.1) ∧ ∃ u, w.cell? ⟨ad.block, ad.off + 1, none⟩ = some u ∧ EvsP p w u b.2
def BatP (p : Nat → Prop) (w : World) (v : Value) (bs : List Bt) : Prop := SlR p 2 (rdBat p) w v bs
theorem BatO.bats {w : World} {base : Nat} {v : Value} {bs : List Bt} (h : BatO w base v bs) : BatP (fun _ => True) w v bs := by
 obtain ⟨a, cap, rfl, hl⟩ := h.shape
 have h' := h
 obtain ⟨us, h1, h2, h3⟩ := h'
 have hcap : bs.length ≤ cap ∧ cap ≤ maxLen := by
  rcases h2.2 with ⟨hv, hx⟩ | ⟨g, cap', cur', hv, hge, hh, h3, h4, h5, h6⟩
  · simp only [Value.slice.injEq] at hv
    obtain ⟨_, _, rfl⟩ := hv
    rw [← h1, hx]
    exact ⟨by simp, by simp⟩
  · simp only [Value.slice.injEq] at hv
    obtain ⟨_, _, rfl⟩ := hv
    exact ⟨by omega, by omega⟩
 refine ⟨a, cap, rfl, hcap.1, hcap.2, fun h0 => ?_⟩
 obtain ⟨g, u, rfl, _, _, _, _, _⟩ := h.at 0 h0 (0, [])
 refine ⟨g, 0, rfl, trivial, fun j hj => ?_⟩
 obtain ⟨g', u, he, _, _, c0, c1, c2⟩ := h.at j hj (0, [])
 simp only [Option.some.injEq, Addr.mk.injEq, and_true] at he
 obtain rfl := he
 rw [List.getD_eq_getElem?_getD, List.getElem?_eq_getElem hj] at c0 c2
 rw [Nat.zero_add]
 exact ⟨c0, u, c1, c2.evs.imp fun _ _ => trivial⟩
theorem BatP.at {p : Nat → Prop} {w : World} {a : Option Addr} {n cap : Nat} {bs : List Bt} (h : BatP p w (.slice a n cap) bs) (i : Nat) (hi : i < bs.length) :
 ∃ g off u, a = some ⟨g, off, none⟩ ∧ w.cell? ⟨g, off + i * 2, none⟩ = some (.int .i64 (bs.getD i (0, [])).1) ∧ w.cell? ⟨g, off + i * 2 + 1, none⟩ = some u ∧ EvsP p w u (bs.getD i (0, [])).2 := by
 obtain ⟨g, off, rfl, hp, h1, u, h2, h3⟩ := SlR.at h i hi (0, [])
 exact ⟨g, off, u, rfl, h1, h2, h3⟩
theorem evs_block {w : World} {g : Nat} {c : Array Value} {fr : Nat × Nat} {E : List FEv} (h : w.heap[g]? = some (.cells c 36 fr)) (hc : c.toList = evCells E) (hl : E.length ≤ 1000) (n : Nat) (hn : n = E.length) :
 EvsP (fun k => k = g) w (.slice (some ⟨g, 0, none⟩) n n) E := by
 subst hn
 refine ⟨_, _, rfl, Nat.le_refl _, by unfold maxLen; omega, fun _ => ⟨g, 0, rfl, rfl, fun j hj => ?_⟩⟩
 obtain ⟨e0, e1, e2⟩ := evCells_get E j hj
 rw [← hc] at e0 e1 e2
 unfold rdEv
 rw [Nat.zero_add]
 exact ⟨cell_of_heap h (by simpa using e0), cell_of_heap h (by simpa using e1), cell_of_heap h (by simpa using e2)⟩
def fmE (M : Fm) : List (ByteArray × Value) := M.map fun p => (p.1, .int .i64 p.2)
theorem fmE_ups (M : Fm) (k : ByteArray) (e : Int) : ups (fmE M) k (.int .i64 e) = fmE (ups M k e) := by
 unfold fmE
 induction M with
 | nil => rfl
 | cons p M ih =>
   simp only [List.map_cons, ups]
   split
   · rfl
   · rw [ih]; rfl
theorem fmE_adel (M : Fm) (k : ByteArray) : adel (fmE M) k = fmE (adel M k) := by
 unfold fmE adel
 rw [List.filter_map]
 rfl
theorem fmE_get (M : Fm) (k : ByteArray) : aget (fmE M) k = (aget M k).map fun x => Value.int .i64 x := by
 unfold fmE
 induction M with
 | nil => rfl
 | cons p M ih =>
   simp only [List.map_cons, aget_cons]
   split
   · rfl
   · exact ih
theorem fmE_keys (M : Fm) : (fmE M).map (·.1) = M.map (·.1) := by simp [fmE]
theorem getD_memS {F : List ByteArray} {k : Nat} (h : k < F.length) : F.getD k ⟨#[]⟩ ∈ F := by
 rw [List.getD_eq_getElem?_getD, List.getElem?_eq_getElem h]
 simp
theorem exM_take (F : List ByteArray) (k : Nat) (h : k < F.length) : exM (F.take (k + 1)) = ups (exM (F.take k)) (F.getD k ⟨#[]⟩) 1 := by
 rw [fold_take_snoc F k h ⟨#[]⟩]
 simp [exM, List.foldl_append]
theorem apM_take (M : Fm) (E : List FEv) (k : Nat) (h : k < E.length) : apM M (E.take (k + 1)) = apS (apM M (E.take k)) (E.getD k ev0) := by
 rw [fold_take_snoc E k h ev0]
 simp [apM, List.foldl_append]
theorem zeroInt (w : World) : (zeroValue 3).run Tryz.prog w = .ok (.int .i64 0) w := by
 have h : (Tryz.prog.info? 3).map (fun i => (i.zero, i.size, i.bytes)) = some (some (.int .i64 0), 1, 8) := by kernel_rfl
 obtain ⟨i0, hi, hz0, hz1, hz2⟩ := info_parts h
 simp [zeroValue, typeInfo, hi, hz0]
theorem lookFm {w : World} {b : Nat} {M : Fm} (h : MapAt Tryz.prog 9 sk w b (fmE M)) (x : ByteArray) (hx : x.size ≤ maxLen) :
 (Instr.lookup 79 (.map (some b)) (.string x) false).run Tryz.prog w = .ok (.int .i64 ((aget M x).getD 0)) w := by
 have := h.lookup skeyed skInj Tryz.underlying79 (skOk x hx) (zeroInt w) false
 rw [fmE_get] at this
 unfold sk at this
 rw [this]
 cases aget M x <;> rfl
theorem ups_twice {V : Type} (M : List (ByteArray × V)) (k : ByteArray) (a b : V) : ups (ups M k a) k b = ups M k b := by
 induction M with
 | nil => simp [ups]
 | cons p M ih =>
   simp only [ups]
   split
   · simp [ups]
   · rename_i h
     simp only [ups, if_neg h, ih]
theorem exM_len (F : List ByteArray) : (exM F).length ≤ F.length := by
 refine snocInd (p := fun F => (exM F).length ≤ F.length) ?_ ?_ F
 · simp [exM]
 · intro F x ih
   have : exM (F ++ [x]) = ups (exM F) x 1 := by simp [exM, List.foldl_append]
   rw [this]
   have := length_ups_le (exM F) x 1
   simp; omega
theorem apM_len (M : Fm) (E : List FEv) : (apM M E).length ≤ M.length + E.length := by
 refine snocInd (p := fun E => (apM M E).length ≤ M.length + E.length) ?_ ?_ E
 · simp [apM]
 · intro E x ih
   have : apM M (E ++ [x]) = apS (apM M E) x := by simp [apM, List.foldl_append]
   rw [this]
   unfold apS
   have h1 := length_ups_le (apM M E) x.2.1 1
   have h2 : (adel (apM M E) x.2.1).length ≤ (apM M E).length := List.length_filter_le _ _
   simp only [List.length_append, List.length_cons, List.length_nil]
   split
   · omega
   · split <;> omega
def ApPost (F : List ByteArray) (E : List FEv) (w : World) (e : Ending) (w' : World) : Prop := ∃ v, e = .returned v ∧ StrsP (fun _ => True) w' v (apL F E) ∧ Chg [] w w'
set_option maxRecDepth 100000 in
set_option maxHeartbeats 8000000 in
theorem apply_any (p q : Nat → Prop) (w : World) (fv ev : Value) (F : List ByteArray) (E : List FEv) (hF : StrsP p w fv F) (hE : EvsP q w ev E) (hFp : ∀ x ∈ F, x.size ≤ maxLen) (hEp : ∀ e ∈ E, e.2.1.size ≤ maxLen) (hFl : F.length ≤ 1000) (hEl : E.length ≤ 1000) :
 Calls Tryz.prog 18 #[fv, ev] w (ApPost F E w) := by
 obtain ⟨fa, fc, rfl, hfl, hfc⟩ := hF.shape
 obtain ⟨ea, ec, rfl, hel, hec⟩ := hE.shape
 have HF := Lib.hid hF
 have HE := Lib.hid hE
 have HFp := Lib.hid hFp
 have HEp := Lib.hid hEp
 have hmm := @run_makeMap Tryz.prog
 obtain ⟨w1, hw1⟩ : ∃ x, x = w.alloc (.map #[] 0) := ⟨_, rfl⟩
 have hc1 : Chg [] w w1 := by rw [hw1]; exact (Chg.refl [] w).alloc _
 have hm1 : MapAt Tryz.prog 9 sk w1 w.heap.size (fmE (exM (F.take 0))) := by rw [hw1]; exact MapAt.made _ _ _ _
 have Hc1 := Lib.hid hc1
 have Hm1 := Lib.hid hm1
 unfold maxLen at hfl hel
 clear hF hE hFp hEp hc1 hm1
 go_enter Tryz.func18, Tryz.ntmps18
 go_wp2_with fail
 rw [← hw1]
 clear hw1
 go_loopw [13] (fun jj wr => ∃ k : Nat, k ≤ F.length ∧ jj = .int .i64 (k : Nat) ∧ MapAt Tryz.prog 9 sk wr w.heap.size (fmE (exM (F.take k))) ∧ Chg [] w wr) (fun jj _ => F.length - (intOf jj).toNat)
 case atStart => exact ⟨0, by omega, rfl, Hm1.out, Hc1.out⟩
 case round =>
  obtain ⟨k, hk, rfl, hm, hc⟩ := hrel
  by_cases hlt : k < F.length
  · have hk1 : (k : Int) < F.length := by omega
    obtain ⟨g, off, rfl, hp, c0⟩ := (HF.out.same hc).cell k hlt
    have hpa := HFp.out _ (getD_memS hlt)
    have htk := exM_take F k hlt
    obtain ⟨x, hx⟩ : ∃ x, F.getD k ⟨#[]⟩ = x := ⟨_, rfl⟩
    rw [hx] at c0 hpa htk
    obtain ⟨o, hup, hmu⟩ := hm.update skeyed skInj Tryz.underlying79 (skOk x hpa) (.int .i64 1)
    rw [fmE_ups, ← htk] at hmu
    unfold sk at hup
    have HN := Lib.hid (And.intro hmu (hc.setBlock (b := w.heap.size) (Or.inr (Nat.le_refl _)) o))
    clear hmu hm hc hx htk hpa
    go_wp2_with fail
    exact ⟨⟨k + 1, by omega, by go_num, HN.out.1, HN.out.2⟩, by simp [intOf]; omega⟩
  · obtain rfl : k = F.length := by omega
    have hk1 : ¬ ((F.length : Int) < F.length) := by omega
    rw [List.take_length] at hm
    have HN := Lib.hid (And.intro hm hc)
    clear hm hc
    go_wp2_with fail
    go_loopw [22] (fun jj wr => ∃ k : Nat, k ≤ E.length ∧ jj = .int .i64 (k : Nat) ∧ MapAt Tryz.prog 9 sk wr w.heap.size (fmE (apM (exM F) (E.take k))) ∧ Chg [] w wr) (fun jj _ => E.length - (intOf jj).toNat)
    case atStart => exact ⟨0, by omega, rfl, HN.out.1, HN.out.2⟩
    case round =>
     clear HN
     obtain ⟨k, hk, rfl, hm, hc⟩ := hrel
     by_cases hlt : k < E.length
     · have hk1 : (k : Int) < E.length := by omega
       obtain ⟨g, off, rfl, hp, c0, c1, c2⟩ := (HE.out.same hc).cells k hlt
       have hpa := HEp.out _ (getD_memE hlt)
       have htk := apM_take (exM F) E k hlt
       obtain ⟨⟨t, pa, kd⟩, hr⟩ : ∃ r, E.getD k ev0 = r := ⟨_, rfl⟩
       rw [hr] at c0 c1 c2 hpa htk
       simp only at c0 c1 c2 hpa
       obtain ⟨w2, hw2⟩ : ∃ x, x = wr.alloc (.cells #[.int .i64 t, .string pa, .int .i64 kd] 36) := ⟨_, rfl⟩
       have hc2 : Chg [] wr w2 := by rw [hw2]; exact (Chg.refl [] wr).alloc _
       have hb2 : w2.heap[wr.heap.size]? = some (.cells #[.int .i64 t, .string pa, .int .i64 kd] 36 (0, 0)) := by rw [hw2]; exact heap_at _ _ _ rfl
       by_cases h12 : kd = 1 ∨ kd = 2
       · rw [show apS (apM (exM F) (E.take k)) (t, pa, kd) = ups (apM (exM F) (E.take k)) pa 1 by unfold apS; rw [if_pos h12]] at htk
         obtain ⟨o, hup, hmu⟩ := (hm.kept hc2 (by simp)).update skeyed skInj Tryz.underlying79 (skOk pa hpa) (.int .i64 1)
         rw [fmE_ups, ← htk] at hmu
         unfold sk at hup
         rw [hw2] at hup
         have HN := Lib.hid (And.intro hmu ((hc.trans hc2).setBlock (b := w.heap.size) (Or.inr (Nat.le_refl _)) o))
         rw [hw2] at HN
         clear hmu hm hc hr htk hpa hc2 hb2 hw2
         by_cases h1 : kd = 1
         · have e1 : (kd == 1) = true := by simp [h1]
           clear h12 h1
           go_wp2_with fail
           exact ⟨⟨k + 1, by omega, by go_num, HN.out.1, HN.out.2⟩, by simp [intOf]; omega⟩
         · have e1 : (kd == 1) = false := by simp [h1]
           have e2 : (kd == 2) = true := by simpa [h1] using h12
           clear h12
           go_wp2_with fail
           exact ⟨⟨k + 1, by omega, by go_num, HN.out.1, HN.out.2⟩, by simp [intOf]; omega⟩
       · have e1 : (kd == 1) = false := by simp; omega
         have e2 : (kd == 2) = false := by simp; omega
         by_cases h3 : kd = 3
         · rw [show apS (apM (exM F) (E.take k)) (t, pa, kd) = adel (apM (exM F) (E.take k)) pa by unfold apS; rw [if_neg h12, if_pos h3]] at htk
           have e3 : (kd == 3) = true := by simp [h3]
           obtain ⟨o, hup, hmu⟩ := (hm.kept hc2 (by simp)).delete skeyed skInj Tryz.underlying79 (skOk pa hpa) 0
           rw [fmE_adel, ← htk] at hmu
           unfold sk at hup
           rw [hw2] at hup
           have HN := Lib.hid (And.intro hmu ((hc.trans hc2).setBlock (b := w.heap.size) (Or.inr (Nat.le_refl _)) o))
           rw [hw2] at HN
           clear hmu hm hc hr htk hpa hc2 hb2 hw2 h12 h3
           go_wp2_with fail
           exact ⟨⟨k + 1, by omega, by go_num, HN.out.1, HN.out.2⟩, by simp [intOf]; omega⟩
         · rw [show apS (apM (exM F) (E.take k)) (t, pa, kd) = apM (exM F) (E.take k) by unfold apS; rw [if_neg h12, if_neg h3]] at htk
           have e3 : (kd == 3) = false := by simp [h3]
           have HN := Lib.hid (And.intro (hm.kept hc2 (by simp)) (hc.trans hc2))
           rw [← htk, hw2] at HN
           clear hm hc hr htk hpa hc2 hb2 hw2 h12
           go_wp2_with fail
           exact ⟨⟨k + 1, by omega, by go_num, HN.out.1, HN.out.2⟩, by simp [intOf]; omega⟩
     · obtain rfl : k = E.length := by omega
       have hk1 : ¬ ((E.length : Int) < E.length) := by omega
       rw [List.take_length] at hm
       obtain ⟨wo, rfl⟩ : ∃ x, x = wr := ⟨_, rfl⟩
       have hML : (apM (exM F) E).length ≤ 100000 := by have h1 := apM_len (exM F) E; have h2 := exM_len F; omega
       obtain ⟨w5, hw5⟩ : ∃ x, x = wo.alloc (.cells #[.map (some w.heap.size)] 79) := ⟨_, rfl⟩
       have hc5 : Chg [] wo w5 := by rw [hw5]; exact (Chg.refl [] wo).alloc _
       have hb5 : w5.heap[wo.heap.size]? = some (.cells #[.map (some w.heap.size)] 79 (0, 0)) := by rw [hw5]; exact heap_at _ _ _ rfl
       have hm5 := hm.kept hc5 (by simp)
       have Hsort := Lib.hid (sorted_any _ (fmE (apM (exM F) E)) (by simp [fmE]; omega) w5 (collectKeysI_any wo.heap.size w.heap.size (fmE (apM (exM F) E)) (by simp [fmE]; omega) w5 hb5 hm5))
       have Hkeys := Lib.hid (mapsKeysI_any w.heap.size wo)
       have HC := Lib.hid (hc.trans hc5)
       have Hw5 := Lib.hid hw5
       clear hm hc hc5 hb5 hm5 hw5 hML
       go_wp2_with fail
       refine Hkeys.out.mono ?_
       rintro e wx ⟨rfl, hwx⟩
       rw [← Hw5.out] at hwx
       subst hwx
       go_wp2_with fail
       refine Hsort.out.mono ?_
       rintro e w6 ⟨kv, rfl, hkv, hc6⟩
       rw [fmE_keys] at hkv
       have HR := Lib.hid (And.intro hkv (HC.out.trans hc6))
       clear hkv hc6
       go_wp2_with fail
       go_ret
       exact ⟨kv, rfl, SlR.imp HR.out.1 (fun _ _ => trivial) fun _ _ _ h => h, HR.out.2⟩
theorem coM_nil (M : Fm) : coM M [] = true := rfl
theorem coM_cons (M : Fm) (e : FEv) (r : List FEv) : coM M (e :: r) = if vk e.2.2 then (if (decide ((aget M e.2.1).getD 0 ≠ 0) == decide (e.2.2 = 1)) then false else coM (ups M e.2.1 (if e.2.2 = 3 then 0 else 1)) r) else coM M r := rfl
set_option maxRecDepth 100000 in
set_option maxHeartbeats 8000000 in
theorem consistent_any (p q : Nat → Prop) (w : World) (fv ev : Value) (F : List ByteArray) (E : List FEv) (hF : StrsP p w fv F) (hE : EvsP q w ev E) (hFp : ∀ x ∈ F, x.size ≤ maxLen) (hEp : ∀ e ∈ E, e.2.1.size ≤ maxLen) (hEk : ∀ e ∈ E, vk e.2.2 = true) :
 Calls Tryz.prog 9 #[fv, ev] w fun e w' => e = .returned (.bool (coM (exM F) E)) ∧ Chg [] w w' := by
 have HEk := Lib.hid hEk
 clear hEk
 obtain ⟨fa, fc, rfl, hfl, hfc⟩ := hF.shape
 obtain ⟨ea, ec, rfl, hel, hec⟩ := hE.shape
 have HF := Lib.hid hF
 have HE := Lib.hid hE
 have HFp := Lib.hid hFp
 have HEp := Lib.hid hEp
 have hmm := @run_makeMap Tryz.prog
 obtain ⟨w1, hw1⟩ : ∃ x, x = w.alloc (.map #[] 0) := ⟨_, rfl⟩
 have hc1 : Chg [] w w1 := by rw [hw1]; exact (Chg.refl [] w).alloc _
 have hm1 : MapAt Tryz.prog 9 sk w1 w.heap.size (fmE (exM (F.take 0))) := by rw [hw1]; exact MapAt.made _ _ _ _
 have Hc1 := Lib.hid hc1
 have Hm1 := Lib.hid hm1
 unfold maxLen at hfl hel
 clear hF hE hFp hEp hc1 hm1
 go_enter Tryz.func9, Tryz.ntmps9
 go_wp2_with fail
 rw [← hw1]
 clear hw1
 go_loopw [13] (fun jj wr => ∃ k : Nat, k ≤ F.length ∧ jj = .int .i64 (k : Nat) ∧ MapAt Tryz.prog 9 sk wr w.heap.size (fmE (exM (F.take k))) ∧ Chg [] w wr) (fun jj _ => F.length - (intOf jj).toNat)
 case atStart => exact ⟨0, by omega, rfl, Hm1.out, Hc1.out⟩
 case round =>
  obtain ⟨k, hk, rfl, hm, hc⟩ := hrel
  by_cases hlt : k < F.length
  · have hk1 : (k : Int) < F.length := by omega
    obtain ⟨g, off, rfl, hp, c0⟩ := (HF.out.same hc).cell k hlt
    have hpa := HFp.out _ (getD_memS hlt)
    have htk := exM_take F k hlt
    obtain ⟨x, hx⟩ : ∃ x, F.getD k ⟨#[]⟩ = x := ⟨_, rfl⟩
    rw [hx] at c0 hpa htk
    obtain ⟨o, hup, hmu⟩ := hm.update skeyed skInj Tryz.underlying79 (skOk x hpa) (.int .i64 1)
    rw [fmE_ups, ← htk] at hmu
    unfold sk at hup
    have HN := Lib.hid (And.intro hmu (hc.setBlock (b := w.heap.size) (Or.inr (Nat.le_refl _)) o))
    clear hmu hm hc hx htk hpa
    go_wp2_with fail
    exact ⟨⟨k + 1, by omega, by go_num, HN.out.1, HN.out.2⟩, by simp [intOf]; omega⟩
  · obtain rfl : k = F.length := by omega
    have hk1 : ¬ ((F.length : Int) < F.length) := by omega
    rw [List.take_length] at hm
    have HN := Lib.hid (And.intro hm hc)
    clear hm hc
    go_wp2_with fail
    go_loopw [22] (fun jj wr => ∃ (k : Nat) (M : Fm), k ≤ E.length ∧ jj = .int .i64 (k : Nat) ∧ MapAt Tryz.prog 9 sk wr w.heap.size (fmE M) ∧ Hid (coM (exM F) E = coM M (E.drop k)) ∧ Chg [] w wr) (fun jj _ => E.length - (intOf jj).toNat)
    case atStart => exact ⟨0, exM F, by omega, rfl, HN.out.1, Lib.hid rfl, HN.out.2⟩
    case round =>
     clear HN
     obtain ⟨k, M, hk, rfl, hm, Hco, hc⟩ := hrel
     by_cases hlt : k < E.length
     · have hk1 : (k : Int) < E.length := by omega
       obtain ⟨g, off, rfl, hp, c0, c1, c2⟩ := (HE.out.same hc).cells k hlt
       have hpa := HEp.out _ (getD_memE hlt)
       have hvk := HEk.out _ (getD_memE hlt)
       have hd : E.drop k = E.getD k ev0 :: E.drop (k + 1) := by
        rw [List.drop_eq_getElem_cons hlt, List.getD_eq_getElem?_getD, List.getElem?_eq_getElem hlt]; rfl
       obtain ⟨⟨t, pa, kd⟩, hr⟩ : ∃ r, E.getD k ev0 = r := ⟨_, rfl⟩
       have hco := Hco.out
       rw [hd, hr, coM_cons] at hco
       rw [hr] at c0 c1 c2 hpa hvk
       simp only at c0 c1 c2 hpa hvk hco
       rw [if_pos hvk] at hco
       have Hvk := Lib.hid (show ∀ W, Calls Tryz.prog 30 #[.int .i64 kd] W fun e w' => e = .returned (.bool true) ∧ w' = W from fun W => by
        have := validKind_any kd W
        rwa [hvk] at this)
       obtain ⟨x, hx⟩ : ∃ x, (aget M pa).getD 0 = x := ⟨_, rfl⟩
       rw [hx] at hco
       obtain ⟨w2, hw2⟩ : ∃ x, x = wr.alloc (.cells #[.int .i64 t, .string pa, .int .i64 kd] 36) := ⟨_, rfl⟩
       have hc2 : Chg [] wr w2 := by rw [hw2]; exact (Chg.refl [] wr).alloc _
       have hm2 := hm.kept hc2 (by simp)
       have hlook := lookFm hm2 pa hpa
       rw [hx, hw2] at hlook
       have hb : ∀ b : Bool, (b == b) = true := fun b => by simp
       obtain ⟨bx, hbx⟩ : ∃ b, (x != 0) = b := ⟨_, rfl⟩
       obtain ⟨bk, hbk⟩ : ∃ b, (kd == 1) = b := ⟨_, rfl⟩
       have hxx : decide (x ≠ 0) = bx := by rw [← hbx]; by_cases h : x = 0 <;> simp [h]
       have hkk : decide (kd = 1) = bk := by rw [← hbk]; by_cases h : kd = 1 <;> simp [h]
       rw [hxx, hkk] at hco
       cases hbb : (bx == bk) with
       | true =>
         rw [hbb, if_pos rfl] at hco
         have HN := Lib.hid (And.intro hco (hc.trans hc2))
         rw [hw2] at HN
         clear hco hm hc hr hpa hvk hd hx hc2 hm2 hw2 hxx hkk Hco
         go_wp2_with fail
         refine (Hvk.out _).mono ?_
         rintro e w' ⟨rfl, rfl⟩
         go_wp2_with fail
         go_ret
         exact ⟨by rw [HN.out.1]; rfl, HN.out.2⟩
       | false =>
         rw [hbb, if_neg (by simp)] at hco
         obtain ⟨o, hup, hmu⟩ := hm2.update skeyed skInj Tryz.underlying79 (skOk pa hpa) (.int .i64 1)
         rw [fmE_ups] at hmu
         unfold sk at hup
         have hc3 := (hc.trans hc2).setBlock (b := w.heap.size) (Or.inr (Nat.le_refl _)) o
         have hbx' : (w2.heap[wr.heap.size]? = some (.cells #[.int .i64 t, .string pa, .int .i64 kd] 36 (0, 0))) := by rw [hw2]; exact heap_at _ _ _ rfl
         have hlm := hm.lt
         have d1 : (setBlock w2 w.heap.size o).cell? ⟨wr.heap.size, 1, none⟩ = some (.string pa) := (cell_setBlock (a := ⟨wr.heap.size, 1, none⟩) (by show wr.heap.size ≠ w.heap.size; omega)).trans (cell_of_heap hbx' rfl)
         have d2 : (setBlock w2 w.heap.size o).cell? ⟨wr.heap.size, 2, none⟩ = some (.int .i64 kd) := (cell_setBlock (a := ⟨wr.heap.size, 2, none⟩) (by show wr.heap.size ≠ w.heap.size; omega)).trans (cell_of_heap hbx' rfl)
         by_cases h3 : kd = 3
         · have e3 : (kd == 3) = true := by simp [h3]
           obtain ⟨o2, hup2, hmu2⟩ := hmu.update skeyed skInj Tryz.underlying79 (skOk pa hpa) (.int .i64 0)
           rw [fmE_ups, ups_twice] at hmu2
           rw [if_pos h3] at hco
           unfold sk at hup2
           have hc4 := hc3.setBlock (b := w.heap.size) (Or.inr (Nat.le_refl _)) o2
           rw [hw2] at hup hup2 hmu2 hc4 d1 d2
           have HN := Lib.hid (And.intro hco (And.intro hmu2 hc4))
           clear hco hm hc hr hpa hvk hd hx hc2 hm2 hw2 hxx hkk Hco hmu hmu2 hc4 hc3 hbx' hlm h3
           go_wp2_with fail
           refine (Hvk.out _).mono ?_
           rintro e w' ⟨rfl, rfl⟩
           go_wp2_with fail
           exact ⟨⟨k + 1, _, by omega, by go_num, HN.out.2.1, Lib.hid HN.out.1, HN.out.2.2⟩, by simp [intOf]; omega⟩
         · have e3 : (kd == 3) = false := by simp [h3]
           rw [if_neg h3] at hco
           rw [hw2] at hup hmu hc3 d1 d2
           have HN := Lib.hid (And.intro hco (And.intro hmu hc3))
           clear hco hm hc hr hpa hvk hd hx hc2 hm2 hw2 hxx hkk Hco hmu hc3 hbx' hlm h3
           go_wp2_with fail
           refine (Hvk.out _).mono ?_
           rintro e w' ⟨rfl, rfl⟩
           go_wp2_with fail
           exact ⟨⟨k + 1, _, by omega, by go_num, HN.out.2.1, Lib.hid HN.out.1, HN.out.2.2⟩, by simp [intOf]; omega⟩
     · obtain rfl : k = E.length := by omega
       have hk1 : ¬ ((E.length : Int) < E.length) := by omega
       have hco := Hco.out
       rw [List.drop_length, coM_nil] at hco
       have HN := Lib.hid (And.intro hco hc)
       clear hm hc hco Hco
       go_wp2_with fail
       go_ret
       exact ⟨by rw [HN.out.1]; rfl, HN.out.2⟩
theorem nbE_mem {G : List FEv} {x : FEv} (hx : x ∈ nbE G) : ∃ y ∈ G, y.2.1 = x.2.1 := by
 obtain ⟨h1, _⟩ := (nb_mem G x).1 hx
 exact mgd_from G x.2.1 (by rw [h1]; rfl)
theorem flat_take {α β : Type} (f : α → List β) (l : List α) (k : Nat) (h : k < l.length) (d : α) : (l.take (k + 1)).flatMap f = (l.take k).flatMap f ++ f (l.getD k d) := by
 rw [List.take_succ_eq_append_getElem h, List.flatMap_append, List.getD_eq_getElem?_getD, List.getElem?_eq_getElem h]
 simp
theorem evCells_one (es : List FEv) : ∀ u ∈ evCells es, u.oneCell' = true := by
 intro u hu
 simp only [evCells, List.mem_flatMap, List.mem_cons, List.not_mem_nil, or_false] at hu
 obtain ⟨e, _, h | h | h⟩ := hu <;> subst h <;> rfl
end Go.Proofs.YtjlknaahpjiibaaGreatDoor.F
