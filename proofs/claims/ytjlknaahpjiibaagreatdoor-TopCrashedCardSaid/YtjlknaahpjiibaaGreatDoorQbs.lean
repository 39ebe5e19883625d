/- Part of the proof of topCrashedLaw_holds. -/
import Derived.Test.YtjlknaahpjiibaaGreatDoorQax
import Derived.Test.YtjlknaahpjiibaaGreatDoorQbg
import Derived.Test.YtjlknaahpjiibaaGreatDoorQbr
namespace Go.Proofs.YtjlknaahpjiibaaGreatDoor
open List (getElem_toArray getElem_cons_zero getElem_cons_succ setIfInBounds_toArray set_cons_zero set_cons_succ)
open Go.RowKit Go.ChangeMaps Go.MapKept Go.Shelf
set_option linter.unusedVariables false
set_option linter.unusedSimpArgs false
def docC (T : List ByteArray) (i : Nat) : Dc := (⟨#[109]⟩ ++ dec i, 0, cut 100 (T.getD i ⟨#[]⟩))
def docsC (T : List ByteArray) (n : Nat) : List Dc := (List.range n).map (docC T)
theorem docsC_succ (T : List ByteArray) (n : Nat) : docsC T (n + 1) = docsC T n ++ [docC T n] := by
 unfold docsC
 rw [List.range_succ, List.map_append]
 rfl
theorem docsC_len (T : List ByteArray) (n : Nat) : (docsC T n).length = n := by simp [docsC]
theorem docsC_mem (T : List ByteArray) (n : Nat) (hn : n ≤ 4) : ∀ d ∈ docsC T n, d.1 ∈ sixN ∧ d.2.2.size ≤ 200 := by
 intro d hd
 obtain ⟨i, hi, rfl⟩ := List.mem_map.1 hd
 have hi4 := List.mem_range.1 hi
 refine ⟨List.mem_map.2 ⟨i, List.mem_range.2 (by omega), rfl⟩, ?_⟩
 show (cut 100 _).size ≤ 200
 unfold cut
 rw [ByteArray.size_extract]
 omega
theorem docsC_nodup (T : List ByteArray) (n : Nat) (hn : n ≤ 4) : (nms (docsC T n)).Nodup := by
 unfold nms docsC
 rw [List.map_map]
 have h5 : ((List.range 4).map ((·.1) ∘ docC T)).Nodup := by
  have e : (List.range 4).map ((·.1) ∘ docC T) = [⟨#[109, 48]⟩, ⟨#[109, 49]⟩, ⟨#[109, 50]⟩, ⟨#[109, 51]⟩] := rfl
  rw [e]
  decide
 exact h5.sublist ((List.range_sublist.2 hn).map _)
theorem docsC_ok (T : List ByteArray) (n : Nat) (hn : n ≤ 4) : DcOk (docsC T n) := by
 have hsz : ∀ x ∈ sixN, x.size = 2 := by decide
 refine ⟨by rw [docsC_len]; omega, fun d hd => ?_, docsC_nodup T n hn⟩
 have h1 := docsC_mem T n hn d hd
 have h2 := hsz _ h1.1
 omega
theorem docsC_idx (T : List ByteArray) (n : Nat) (hn : n ≤ 4) : IsIdx (docsC T n) ((docsC T n).map entO) := by
 refine ⟨List.Perm.refl _, ?_⟩
 have h5 : ((List.range 4).map fun i => ((⟨#[109]⟩ : ByteArray) ++ dec i)).Pairwise ltN := by
  have e : ((List.range 4).map fun i => ((⟨#[109]⟩ : ByteArray) ++ dec i)) = [⟨#[109, 48]⟩, ⟨#[109, 49]⟩, ⟨#[109, 50]⟩, ⟨#[109, 51]⟩] := rfl
  rw [e]
  unfold ltN
  decide
 have h6 := h5.sublist ((List.range_sublist.2 hn).map _)
 unfold docsC
 rw [List.map_map, List.pairwise_map]
 rw [List.pairwise_map] at h6
 exact h6
structure DF (B : Nat) (D : List Dc) (v9 v10 : Value) (wr : World) : Prop where
 docs : OwnD wr B v9 D
 files : OwnS wr B v10 (nms D)
theorem DF.ne {B : Nat} {D : List Dc} {v9 v10 : Value} {wr : World} (h : DF B D v9 v10 wr) : ∀ g, v9.ownBlock = some g → v10.ownBlock ≠ some g := F.own_ne2 h.docs h.files (by decide)
theorem DF.same {B : Nat} {D : List Dc} {v9 v10 : Value} {w w' : World} (h : DF B D v9 v10 w) (hc : Chg [] w w') : DF B D v9 v10 w' := ⟨h.docs.same hc, h.files.same hc⟩
theorem DcP.imp {p q : Nat → Prop} {w : World} {v : Value} {xs : List Dc} (h : DcP p w v xs) (hp : ∀ g, p g → q g) : DcP q w v xs := SlR.imp h hp fun _ _ _ h => h
structure EvI (D : List Dc) (E : List F.FEv) (now : Int) : Prop where
 tim : F.TimOk E now
 path : ∀ e ∈ E, e.2.1 ∈ sixN
 co : F.coM (F.exM (nms D)) E = true
theorem EvI.nil (D : List Dc) : EvI D [] 0 := ⟨⟨by simp, by simp, by simp, by simp, by simp⟩, by simp, rfl⟩
theorem EvI.later {D : List Dc} {E : List F.FEv} {now t : Int} (h : EvI D E now) (hn : now ≤ t) : EvI D E t :=
 ⟨⟨h.tim.len, h.tim.kind, fun e he => by have := h.tim.time e he; omega, h.tim.ord, h.tim.path⟩, h.path, h.co⟩
theorem sixN_dec (b : Nat) (hb : b < 6) : (⟨#[109]⟩ : ByteArray) ++ dec b ∈ sixN := List.mem_map.2 ⟨b, List.mem_range.2 hb, rfl⟩
theorem sixN_size {x : ByteArray} (h : x ∈ sixN) : x.size = 2 := by
 have hsz : ∀ x ∈ sixN, x.size = 2 := by decide
 exact hsz x h
theorem EvI.snoc {D : List Dc} {E : List F.FEv} {now t k : Int} {pa : ByteArray} (h : EvI D E now) (hn : now ≤ t) (h0 : 0 ≤ t) (hl : E.length < 40) (hk : 1 ≤ k ∧ k ≤ 3) (hp : pa ∈ sixN) (hc : F.coM (F.exM (nms D)) (E ++ [(t, pa, k)]) = true) : EvI D (E ++ [(t, pa, k)]) t := by
 refine ⟨h.tim.snoc hn h0 hl hk (by rw [sixN_size hp]; decide), fun e he => ?_, hc⟩
 rcases List.mem_append.1 he with he | he
 · exact h.path e he
 · rw [List.mem_singleton.1 he]; exact hp
theorem OwnEv.low {w : World} {B B' : Nat} {v : Value} {l : List F.FEv} (h : F.OwnEv w B v l) (hb : B' ≤ B) : F.OwnEv w B' v l := by
 rcases h.2 with h2 | ⟨g, cap, cur, h1, h2, r⟩
 · exact ⟨h.1, .inl h2⟩
 · exact ⟨h.1, .inr ⟨g, cap, cur, h1, by omega, r⟩⟩
theorem run_append_ev (w : World) (ty : TypeId) (B : Nat) (v : Value) (l : List F.FEv) (e : F.FEv) (n : Nat) (hv : F.OwnEv w B v l) (hb : w.heap[n]? = some (.cells #[.int .i64 e.1, .string e.2.1, .int .i64 e.2.2] 36 (0, 0))) (hlen : l.length ≤ 1000) (hB : B ≤ w.heap.size) :
 ∃ a c w', (Builtin.append_ #[23, 23] ty #[v, .slice (some ⟨n, 0, none⟩) 1 1]).run Tryz.prog w = .ok (.slice a (l.length + 1) c) w' ∧ F.OwnEv w' B (.slice a (l.length + 1) c) (l ++ [e]) ∧ Chg v.ownBlock.toList w w' := by
 have hs : F.EvsP (fun k => k = n) w (.slice (some ⟨n, 0, none⟩) 1 1) [e] := F.evs_block hb (by simp [F.evCells]) (by simp) 1 rfl
 obtain ⟨v', w', hr, ho, hc, _⟩ := run_append_evs w ty B v _ l [e] _ hv hs (by simp; omega) hB
 obtain ⟨a, c, rfl⟩ := ownsRow_shape ho
 have hl : (l ++ [e]).length = l.length + 1 := by simp
 rw [hl] at hr ho
 exact ⟨a, c, w', hr, ho, hc⟩
def st3 (w : World) (g : Nat) (a : Int) (b : ByteArray) (c : Int) : World := ((w.setCell ⟨g, 0, none⟩ (.int .i64 a)).setCell ⟨g, 1, none⟩ (.string b)).setCell ⟨g, 2, none⟩ (.int .i64 c)
theorem st3_chg (w : World) (g : Nat) (a : Int) (b : ByteArray) (c : Int) : Chg [g] w (st3 w g a b c) := ((((Chg.refl [g] w).setCell (Or.inl (by simp)) _).setCell (Or.inl (by simp)) _).setCell (Or.inl (by simp)) _)
theorem ev_stored {w : World} {g : Nat} {v0 v1 v2 : Value} {T : TypeId} (h : w.heap[g]? = some (.cells #[v0, v1, v2] T (0, 0))) (a : Int) (b : ByteArray) (c : Int) : (st3 w g a b c).heap[g]? = some (.cells #[.int .i64 a, .string b, .int .i64 c] T (0, 0)) := by
 have h0 := heap_setCell_same (i := 0) h (.int .i64 a)
 have h1 := heap_setCell_same (i := 1) h0 (.string b)
 have h2 := heap_setCell_same (i := 2) h1 (.int .i64 c)
 unfold st3
 rw [h2]
 rfl
def EclPost (E : List F.FEv) (wc W : World) (e : Ending) (w' : World) : Prop := ∃ a c, e = .returned (.slice a E.length c) ∧ F.OwnEv w' wc.heap.size (.slice a E.length c) E ∧ Chg [] wc w' ∧ Chg [] W w'
set_option maxRecDepth 100000 in
set_option maxHeartbeats 8000000 in
theorem topCrashed_any (p q : Nat → Prop) (w : World) (v0 v1 : Value) (T : List ByteArray) (E0 : List F.FEv) (xd xc : Int) (h : StrsP p w v0 T) (hE : F.EvsP q w v1 E0) (hT : Jv.TP3 w) :
 Calls Tryz.prog 3 #[v0, v1, .int .i64 xd, .int .i64 xc] w fun e w' => e = .returned (.bool true) ∧ Chg [] w w' := by
 obtain ⟨a0, c0, rfl, hml, hcp⟩ := h.shape
 obtain ⟨a1, c1, rfl, hml1, hcp1⟩ := hE.shape
 have H := Lib.hid h
 have HE := Lib.hid hE
 have HT := Lib.hid hT
 unfold maxLen at hml hml1
 clear h hE hT
 obtain ⟨m, hm⟩ : ∃ m : Nat, min (T.length : Int) 4 = m := ⟨(min (T.length : Int) 4).toNat, by omega⟩
 have hm4 : m ≤ 4 := by omega
 have hmT : m ≤ T.length := by omega
 go_enter Tryz.func3, Tryz.ntmps3
 go_wp2_with fail
 refine (Jv.packEx_any _ HT.out).mono ?_
 rintro e w1 ⟨rfl, hc1⟩
 have H1 := Lib.hid hc1
 clear hc1
 go_wp2_with fail
 go_loopw [9, 10, 44] (fun v9 v10 i wr => ∃ (k : Nat) (a9 : Option Addr) (c9 : Nat) (a10 : Option Addr) (c10 : Nat), k ≤ m ∧ i = .int .i64 (k : Nat) ∧ v9 = .slice a9 k c9 ∧ v10 = .slice a10 k c10 ∧ Hid (DF w1.heap.size (docsC T k) (.slice a9 k c9) (.slice a10 k c10) wr ∧ Chg [] w1 wr)) (fun _ _ i _ => m - (intOf i).toNat)
 case atStart => exact ⟨0, none, 0, none, 0, by omega, rfl, rfl, rfl, Lib.hid ⟨⟨OwnD.nil _ _, OwnS.nil _ _⟩, Chg.refl _ _⟩⟩
 case round =>
  obtain ⟨k, a9, c9, a10, c10, hk, rfl, rfl, rfl, HD⟩ := hrel
  by_cases hlt : k < m
  · as_aux_lemma =>
    have hkT : k < T.length := by omega
    obtain ⟨g, off, rfl, _, q0⟩ := (H.out.same (H1.out.trans HD.out.2)).cell k hkT
    obtain ⟨x, hx⟩ : ∃ x, T.getD k ⟨#[]⟩ = x := ⟨_, rfl⟩
    rw [hx] at q0
    have hk1 : (k : Int) < m := by omega
    have hk2 : (k : Int) < T.length := by omega
    have hk0 : (0 : Int) ≤ (k : Int) := by omega
    obtain ⟨tn, htn⟩ : ∃ tn : Nat, min (x.size : Int) 100 = tn := ⟨(min (x.size : Int) 100).toNat, by omega⟩
    have htl : tn ≤ x.size := by omega
    have htl' : (tn : Int) ≤ x.size := by omega
    obtain ⟨X, hX⟩ : ∃ T0, x.extract 0 tn = T0 := ⟨_, rfl⟩
    have Hdoc := Lib.hid (show docC T k = (⟨#[109]⟩ ++ dec k, 0, X) by
     unfold docC cut
     rw [hx, show min x.size 100 = tn by omega, hX])
    have lg := lt_of_cell q0
    have Hdc := Lib.hid (fun W => decimal_any k W (by omega))
    obtain ⟨dk, hdk⟩ : ∃ d, dec k = d := ⟨_, rfl⟩
    rw [hdk] at Hdoc Hdc
    have hds : dk.size = 1 := by rw [← hdk]; exact dec_size k (by omega)
    have hcd : Chg [] wr wr.drew := (Chg.refl [] _).drew
    have HX : Hid (∀ W, Chg [] wr.drew W → W.cell? ⟨g, off + k, none⟩ = some (.string x)) := Lib.hid fun W hc => ((hcd.trans hc).cell lg (by simp)).trans q0
    have Hrun : Hid (∀ W n2, Chg [] wr.drew W → W.heap[n2]? = some (.cells #[.string (⟨#[109]⟩ ++ dk), .int .i64 0, .string X] 28 (0, 0)) → ∃ a7 c7 w7, (Builtin.append_ #[25, 25] 25 #[.slice a9 k c9, .slice (some ⟨n2, 0, none⟩) 1 1]).run Tryz.prog W = .ok (.slice a7 (k + 1) c7) w7 ∧ Hid (OwnD w7 w1.heap.size (.slice a7 (k + 1) c7) (docsC T (k + 1)) ∧ OwnS w7 w1.heap.size (.slice a10 k c10) (nms (docsC T k)) ∧ Chg [] w1 w7)) := Lib.hid fun W n2 hW hb2 => by
     have hl : (docsC T k).length = k := docsC_len T k
     have hdf2 := HD.out.1.same (hcd.trans hW)
     have hcw2 := HD.out.2.trans (hcd.trans hW)
     obtain ⟨v7, w7, hr7, ho7, hc7⟩ := run_append_doc W 25 w1.heap.size _ (docsC T k) (⟨#[109]⟩ ++ dk, 0, X) n2 hdf2.docs hb2 (by omega) hcw2.size
     rw [← Hdoc.out, ← docsC_succ] at ho7
     obtain ⟨a7, c7, rfl⟩ := ownsRow_shape ho7
     rw [docsC_len] at hr7 ho7
     exact ⟨a7, c7, w7, hr7, Lib.hid ⟨ho7, hdf2.files.kept hc7.toP fun g hg hm => hdf2.ne g (by simpa using hm) hg, hcw2.comp hc7 fun g hg => Or.inr (ownsRow_ge hdf2.docs (by simpa using hg)).1⟩⟩
    have Hnx : Hid (∀ a7 c7 w7, OwnD w7 w1.heap.size (.slice a7 (k + 1) c7) (docsC T (k + 1)) ∧ OwnS w7 w1.heap.size (.slice a10 k c10) (nms (docsC T k)) ∧ Chg [] w1 w7 → ∃ g7 off7, a7 = some ⟨g7, off7, none⟩ ∧ w7.cell? ⟨g7, off7 + k * 3, none⟩ = some (.string (⟨#[109]⟩ ++ dk)) ∧ ∃ a9' c9' w9, (Builtin.append_ #[22, 22] 22 #[.slice a10 k c10, .slice (some ⟨w7.heap.size, 0, none⟩) 1 1]).run Tryz.prog (w7.alloc (.cells #[.string (⟨#[109]⟩ ++ dk)] 9)) = .ok (.slice a9' (k + 1) c9') w9 ∧ Hid (DF w1.heap.size (docsC T (k + 1)) (.slice a7 (k + 1) c7) (.slice a9' (k + 1) c9') w9 ∧ Chg [] w1 w9)) := Lib.hid fun a7 c7 w7 h7 => by
     obtain ⟨ho7, hf7, hcw7⟩ := h7
     obtain ⟨g7, off7, he7, _, x0, _, _⟩ := (OwnD.read ho7).cells k (by rw [docsC_len]; omega)
     have hnm : (docsC T (k + 1)).getD k dc0 = docC T k := by
      rw [docsC_succ, List.getD_eq_getElem?_getD, List.getElem?_append_right (by rw [docsC_len]; omega), docsC_len, Nat.sub_self]
      rfl
     rw [hnm, Hdoc.out] at x0
     have hc8 : Chg [] w7 (w7.alloc (.cells #[.string (⟨#[109]⟩ ++ dk)] 9)) := (Chg.refl [] _).alloc _
     have hb8 : (w7.alloc (.cells #[.string (⟨#[109]⟩ ++ dk)] 9)).heap[w7.heap.size]? = some (.cells #[.string (⟨#[109]⟩ ++ dk)] 9 (0, 0)) := heap_at _ _ _ rfl
     have hnl : (nms (docsC T k)).length = k := by unfold nms; rw [List.length_map, docsC_len]
     obtain ⟨v9, w9, hr9, ho9, hc9, _⟩ := run_append_nm _ 22 w1.heap.size _ (nms (docsC T k)) (⟨#[109]⟩ ++ dk) _ (hf7.same hc8) hb8 (by omega) (hcw7.trans hc8).size
     have hne2 : nms (docsC T k) ++ [⟨#[109]⟩ ++ dk] = nms (docsC T (k + 1)) := by
      rw [docsC_succ]
      unfold nms
      rw [List.map_append, List.map_cons, List.map_nil, Hdoc.out]
     rw [hne2] at ho9
     obtain ⟨a9', c9', rfl⟩ := ownsRow_shape ho9
     have hnl1 : (nms (docsC T (k + 1))).length = k + 1 := by unfold nms; rw [List.length_map, docsC_len]
     rw [hnl1] at hr9 ho9
     have hd9 : OwnD w9 w1.heap.size (.slice a7 (k + 1) c7) (docsC T (k + 1)) := (OwnD.same ho7 hc8).kept hc9.toP fun g hg hm => by
      have h1 : (Value.slice a10 k c10).ownBlock = some g := by simpa using hm
      exact F.own_ne2 (OwnD.same ho7 hc8) (hf7.same hc8) (by decide) g hg h1
     exact ⟨g7, off7, he7, x0, a9', c9', w9, hr9, Lib.hid ⟨⟨hd9, ho9⟩, (hcw7.trans hc8).comp hc9 fun g hg => Or.inr (ownsRow_ge hf7 (by simpa using hg)).1⟩⟩
    have hk7 : (k : Int) < ((k + 1 : Nat) : Int) := by omega
    have hk8 : (k : Int) < (k : Int) + 1 := by omega
    have Hcd := Lib.hid hcd
    clear hx hdk hcd q0 lg
    go_upto_region 8 with (fail)
    refine wp_region_put 17 [some 47, some 48, some 49, some 50, some 51, some 52, some 53, some 54, some 55, some 56, some 57, some 58, some 59, some 60, some 61, some 62, some 63] (fun j v W => match j with
     | 0 => v = .slice a9 k c9
     | 1 => v = .int .i64 (k : Nat)
     | 2 => v = .string dk
     | 3 => v = .string (⟨#[109]⟩ ++ dk)
     | 4 => v = .slice (some ⟨g, off, none⟩) T.length c0
     | 5 => v = .int .i64 (k : Nat)
     | 6 => v = .pointer (some ⟨g, off + k, none⟩)
     | 7 => v = .string x
     | 8 => v = .slice (some ⟨g, off, none⟩) T.length c0
     | 9 => v = .int .i64 (k : Nat)
     | 10 => v = .pointer (some ⟨g, off + k, none⟩)
     | 11 => v = .string x
     | 12 => v = .int .i64 (x.size : Nat)
     | 13 => v = .int .i64 (tn : Nat)
     | 14 => v = .string X
     | 15 => v = .agg #[.string (⟨#[109]⟩ ++ dk), .int .i64 0, .string X]
     | 16 => ∃ g16, v = .slice (some ⟨g16, 0, none⟩) 1 1 ∧ W.heap[g16]? = some (.cells #[.string (⟨#[109]⟩ ++ dk), .int .i64 0, .string X] 28 (0, 0))
     | _ => True) (fun _ _ _ => True) (by kernel_rfl) (by kernel_rfl) (by kernel_rfl) (fun _ => trivial) ?_ ?_ ?_
    · intro j v W W2 hcw hR
      match j, hR with
      | 0, hR => exact hR
      | 1, hR => exact hR
      | 2, hR => exact hR
      | 3, hR => exact hR
      | 4, hR => exact hR
      | 5, hR => exact hR
      | 6, hR => exact hR
      | 7, hR => exact hR
      | 8, hR => exact hR
      | 9, hR => exact hR
      | 10, hR => exact hR
      | 11, hR => exact hR
      | 12, hR => exact hR
      | 13, hR => exact hR
      | 14, hR => exact hR
      | 15, hR => exact hR
      | 16, hR => obtain ⟨g16, h1, h2⟩ := hR; exact ⟨g16, h1, (hcw.block g16 (lt_of_obj h2) (by simp)).trans h2⟩
      | (j + 17), hR => exact trivial
    · intro q o ho hn listed u W hun hall hd hc hG K hK
      match q, ho, hn, hun, hd, hK with
      | 0, ho, _, hun, hd, hK =>
        cases ho
        simp only [getElem_toArray, getElem_cons_zero, getElem_cons_succ]
        simp only [putU, Nat.reduceAdd, Act.put, setIfInBounds_toArray, set_cons_zero, set_cons_succ]
        have y0 := HX.out W hc
        go_simp
        have hk := hK _ _ (Chg.refl [] W) rfl trivial
        simp only [putU, Nat.reduceAdd, Act.put, setIfInBounds_toArray, set_cons_zero, set_cons_succ, getElem_toArray, getElem_cons_zero, getElem_cons_succ] at hk
        exact hk
      | 1, ho, _, hun, hd, hK =>
        cases ho
        simp only [getElem_toArray, getElem_cons_zero, getElem_cons_succ]
        simp only [putU, Nat.reduceAdd, Act.put, setIfInBounds_toArray, set_cons_zero, set_cons_succ]
        have y0 := HX.out W hc
        go_simp
        have hk := hK _ _ (Chg.refl [] W) rfl trivial
        simp only [putU, Nat.reduceAdd, Act.put, setIfInBounds_toArray, set_cons_zero, set_cons_succ, getElem_toArray, getElem_cons_zero, getElem_cons_succ] at hk
        exact hk
      | 2, ho, _, hun, hd, hK =>
        have h1 : u 1 = .int .i64 (k : Nat) := hd 1 (by kernel_rfl) (by decide)
        cases ho
        simp only [getElem_toArray, getElem_cons_zero, getElem_cons_succ]
        simp only [putU, Nat.reduceAdd, Act.put, setIfInBounds_toArray, set_cons_zero, set_cons_succ, h1]
        have y0 := HX.out W hc
        go_simp
        go_at_call 5
        refine (Hdc.out _).mono ?_
        rintro e XX ⟨rfl, hXX⟩
        rw [hXX]
        clear hXX
        have hk := hK _ _ (Chg.refl [] W) rfl trivial
        simp only [putU, Nat.reduceAdd, Act.put, setIfInBounds_toArray, set_cons_zero, set_cons_succ, getElem_toArray, getElem_cons_zero, getElem_cons_succ, h1] at hk
        exact hk
      | 3, ho, _, hun, hd, hK =>
        have h2 : u 2 = .string dk := hd 2 (by kernel_rfl) (by decide)
        cases ho
        simp only [getElem_toArray, getElem_cons_zero, getElem_cons_succ]
        simp only [putU, Nat.reduceAdd, Act.put, setIfInBounds_toArray, set_cons_zero, set_cons_succ, h2]
        have y0 := HX.out W hc
        go_simp
        have hk := hK _ _ (Chg.refl [] W) rfl trivial
        simp only [putU, Nat.reduceAdd, Act.put, setIfInBounds_toArray, set_cons_zero, set_cons_succ, getElem_toArray, getElem_cons_zero, getElem_cons_succ, h2] at hk
        exact hk
      | 4, ho, _, hun, hd, hK =>
        cases ho
        simp only [getElem_toArray, getElem_cons_zero, getElem_cons_succ]
        simp only [putU, Nat.reduceAdd, Act.put, setIfInBounds_toArray, set_cons_zero, set_cons_succ]
        have y0 := HX.out W hc
        go_simp
        have hk := hK _ _ (Chg.refl [] W) rfl trivial
        simp only [putU, Nat.reduceAdd, Act.put, setIfInBounds_toArray, set_cons_zero, set_cons_succ, getElem_toArray, getElem_cons_zero, getElem_cons_succ] at hk
        exact hk
      | 5, ho, _, hun, hd, hK =>
        cases ho
        simp only [getElem_toArray, getElem_cons_zero, getElem_cons_succ]
        simp only [putU, Nat.reduceAdd, Act.put, setIfInBounds_toArray, set_cons_zero, set_cons_succ]
        have y0 := HX.out W hc
        go_simp
        have hk := hK _ _ (Chg.refl [] W) rfl trivial
        simp only [putU, Nat.reduceAdd, Act.put, setIfInBounds_toArray, set_cons_zero, set_cons_succ, getElem_toArray, getElem_cons_zero, getElem_cons_succ] at hk
        exact hk
      | 6, ho, _, hun, hd, hK =>
        have h4 : u 4 = .slice (some ⟨g, off, none⟩) T.length c0 := hd 4 (by kernel_rfl) (by decide)
        have h5 : u 5 = .int .i64 (k : Nat) := hd 5 (by kernel_rfl) (by decide)
        cases ho
        simp only [getElem_toArray, getElem_cons_zero, getElem_cons_succ]
        simp only [putU, Nat.reduceAdd, Act.put, setIfInBounds_toArray, set_cons_zero, set_cons_succ, h4, h5]
        have y0 := HX.out W hc
        go_simp
        have hk := hK _ _ (Chg.refl [] W) rfl trivial
        simp only [putU, Nat.reduceAdd, Act.put, setIfInBounds_toArray, set_cons_zero, set_cons_succ, getElem_toArray, getElem_cons_zero, getElem_cons_succ, h4, h5] at hk
        exact hk
      | 7, ho, _, hun, hd, hK =>
        have h6 : u 6 = .pointer (some ⟨g, off + k, none⟩) := hd 6 (by kernel_rfl) (by decide)
        cases ho
        simp only [getElem_toArray, getElem_cons_zero, getElem_cons_succ]
        simp only [putU, Nat.reduceAdd, Act.put, setIfInBounds_toArray, set_cons_zero, set_cons_succ, h6]
        have y0 := HX.out W hc
        go_simp
        have hk := hK _ _ (Chg.refl [] W) rfl trivial
        simp only [putU, Nat.reduceAdd, Act.put, setIfInBounds_toArray, set_cons_zero, set_cons_succ, getElem_toArray, getElem_cons_zero, getElem_cons_succ, h6] at hk
        exact hk
      | 8, ho, _, hun, hd, hK =>
        cases ho
        simp only [getElem_toArray, getElem_cons_zero, getElem_cons_succ]
        simp only [putU, Nat.reduceAdd, Act.put, setIfInBounds_toArray, set_cons_zero, set_cons_succ]
        have y0 := HX.out W hc
        go_simp
        have hk := hK _ _ (Chg.refl [] W) rfl trivial
        simp only [putU, Nat.reduceAdd, Act.put, setIfInBounds_toArray, set_cons_zero, set_cons_succ, getElem_toArray, getElem_cons_zero, getElem_cons_succ] at hk
        exact hk
      | 9, ho, _, hun, hd, hK =>
        cases ho
        simp only [getElem_toArray, getElem_cons_zero, getElem_cons_succ]
        simp only [putU, Nat.reduceAdd, Act.put, setIfInBounds_toArray, set_cons_zero, set_cons_succ]
        have y0 := HX.out W hc
        go_simp
        have hk := hK _ _ (Chg.refl [] W) rfl trivial
        simp only [putU, Nat.reduceAdd, Act.put, setIfInBounds_toArray, set_cons_zero, set_cons_succ, getElem_toArray, getElem_cons_zero, getElem_cons_succ] at hk
        exact hk
      | 10, ho, _, hun, hd, hK =>
        have h8 : u 8 = .slice (some ⟨g, off, none⟩) T.length c0 := hd 8 (by kernel_rfl) (by decide)
        have h9 : u 9 = .int .i64 (k : Nat) := hd 9 (by kernel_rfl) (by decide)
        cases ho
        simp only [getElem_toArray, getElem_cons_zero, getElem_cons_succ]
        simp only [putU, Nat.reduceAdd, Act.put, setIfInBounds_toArray, set_cons_zero, set_cons_succ, h8, h9]
        have y0 := HX.out W hc
        go_simp
        have hk := hK _ _ (Chg.refl [] W) rfl trivial
        simp only [putU, Nat.reduceAdd, Act.put, setIfInBounds_toArray, set_cons_zero, set_cons_succ, getElem_toArray, getElem_cons_zero, getElem_cons_succ, h8, h9] at hk
        exact hk
      | 11, ho, _, hun, hd, hK =>
        have h10 : u 10 = .pointer (some ⟨g, off + k, none⟩) := hd 10 (by kernel_rfl) (by decide)
        cases ho
        simp only [getElem_toArray, getElem_cons_zero, getElem_cons_succ]
        simp only [putU, Nat.reduceAdd, Act.put, setIfInBounds_toArray, set_cons_zero, set_cons_succ, h10]
        have y0 := HX.out W hc
        go_simp
        have hk := hK _ _ (Chg.refl [] W) rfl trivial
        simp only [putU, Nat.reduceAdd, Act.put, setIfInBounds_toArray, set_cons_zero, set_cons_succ, getElem_toArray, getElem_cons_zero, getElem_cons_succ, h10] at hk
        exact hk
      | 12, ho, _, hun, hd, hK =>
        have h11 : u 11 = .string x := hd 11 (by kernel_rfl) (by decide)
        cases ho
        simp only [getElem_toArray, getElem_cons_zero, getElem_cons_succ]
        simp only [putU, Nat.reduceAdd, Act.put, setIfInBounds_toArray, set_cons_zero, set_cons_succ, h11]
        have y0 := HX.out W hc
        go_simp
        have hk := hK _ _ (Chg.refl [] W) rfl trivial
        simp only [putU, Nat.reduceAdd, Act.put, setIfInBounds_toArray, set_cons_zero, set_cons_succ, getElem_toArray, getElem_cons_zero, getElem_cons_succ, h11] at hk
        exact hk
      | 13, ho, _, hun, hd, hK =>
        have h12 : u 12 = .int .i64 (x.size : Nat) := hd 12 (by kernel_rfl) (by decide)
        cases ho
        simp only [getElem_toArray, getElem_cons_zero, getElem_cons_succ]
        simp only [putU, Nat.reduceAdd, Act.put, setIfInBounds_toArray, set_cons_zero, set_cons_succ, h12]
        have y0 := HX.out W hc
        go_simp
        have hk := hK _ _ (Chg.refl [] W) rfl trivial
        simp only [putU, Nat.reduceAdd, Act.put, setIfInBounds_toArray, set_cons_zero, set_cons_succ, getElem_toArray, getElem_cons_zero, getElem_cons_succ, h12] at hk
        exact hk
      | 14, ho, _, hun, hd, hK =>
        have h7 : u 7 = .string x := hd 7 (by kernel_rfl) (by decide)
        have h13 : u 13 = .int .i64 (tn : Nat) := hd 13 (by kernel_rfl) (by decide)
        cases ho
        simp only [getElem_toArray, getElem_cons_zero, getElem_cons_succ]
        simp only [putU, Nat.reduceAdd, Act.put, setIfInBounds_toArray, set_cons_zero, set_cons_succ, h7, h13]
        have y0 := HX.out W hc
        go_simp
        have hk := hK _ _ (Chg.refl [] W) rfl trivial
        simp only [putU, Nat.reduceAdd, Act.put, setIfInBounds_toArray, set_cons_zero, set_cons_succ, getElem_toArray, getElem_cons_zero, getElem_cons_succ, h7, h13] at hk
        exact hk
      | 15, ho, _, hun, hd, hK =>
        have h3 : u 3 = .string (⟨#[109]⟩ ++ dk) := hd 3 (by kernel_rfl) (by decide)
        have h14 : u 14 = .string X := hd 14 (by kernel_rfl) (by decide)
        cases ho
        simp only [getElem_toArray, getElem_cons_zero, getElem_cons_succ]
        simp only [putU, Nat.reduceAdd, Act.put, setIfInBounds_toArray, set_cons_zero, set_cons_succ, h3, h14]
        have y0 := HX.out W hc
        go_simp
        have hk := hK _ _ (Chg.refl [] W) rfl trivial
        simp only [putU, Nat.reduceAdd, Act.put, setIfInBounds_toArray, set_cons_zero, set_cons_succ, getElem_toArray, getElem_cons_zero, getElem_cons_succ, h3, h14] at hk
        exact hk
      | 16, ho, _, hun, hd, hK =>
        have h15 : u 15 = .agg #[.string (⟨#[109]⟩ ++ dk), .int .i64 0, .string X] := hd 15 (by kernel_rfl) (by decide)
        cases ho
        simp only [getElem_toArray, getElem_cons_zero, getElem_cons_succ]
        simp only [putU, Nat.reduceAdd, Act.put, setIfInBounds_toArray, set_cons_zero, set_cons_succ, h15]
        have y0 := HX.out W hc
        go_simp
        have hcw : Chg [] W (W.alloc (.cells #[.string (⟨#[109]⟩ ++ dk), .int .i64 0, .string X] 28)) := (Chg.refl _ _).alloc _
        have hk := hK _ _ hcw ⟨W.heap.size, rfl, heap_at _ _ _ rfl⟩ trivial
        simp only [putU, Nat.reduceAdd, Act.put, setIfInBounds_toArray, set_cons_zero, set_cons_succ, getElem_toArray, getElem_cons_zero, getElem_cons_succ, h15] at hk
        exact hk
      | (q + 17), _, hn, _, _, _ => exact absurd hn (by omega)
    · intro u W hc hR hG
      have h0 : u 0 = .slice a9 k c9 := hR 0 (by decide)
      obtain ⟨g16, h16, f16⟩ := hR 16 (by decide)
      simp only [putU, Nat.reduceAdd, Act.put, setIfInBounds_toArray, set_cons_zero, set_cons_succ, h0, h16]
      obtain ⟨a7, c7, w7, hr7, H7⟩ := Hrun.out W g16 hc f16
      obtain ⟨g7, off7, rfl, x0, a9q, c9q, w9, hr9, H9⟩ := Hnx.out a7 c7 w7 H7.out
      have Hr7 := Lib.hid hr7
      have Hr9 := Lib.hid hr9
      clear hr7 hr9 hc hR hG f16 h0 h16
      refine anyU_one (k := 17) (by kernel_rfl) rfl (fun K hK => ?_)
      refine step_append_run rfl _ _ _ rfl _ _ _ _ rfl rfl Hr7.out ?_
      refine hK _ _ (fun _ => trivial) trivial ?_
      clear hK K
      refine anyU_one (k := 18) (by kernel_rfl) rfl (fun K hK => ?_)
      go_simp
      refine hK _ _ (fun _ => trivial) trivial ?_
      clear hK K
      refine anyU_done (by kernel_rfl) ?_
      have l7 := lt_of_cell x0
      go_wp2_with (at_builtin; refine wpList_append_run rfl _ _ _ rfl _ _ _ _ rfl rfl Hr9.out ?_)
      exact ⟨⟨k + 1, _, c7, a9q, c9q, by omega, by go_num, rfl, rfl, H9⟩, by simp [intOf]; omega⟩
  · have hk1 : ¬ ((k : Int) < m) := by omega
    obtain rfl : k = m := by omega
    obtain ⟨D, hD⟩ : ∃ D, D = docsC T k := ⟨_, rfl⟩
    have hDl : D.length = k := by rw [hD]; exact docsC_len T k
    have HDok := Lib.hid (show DcOk D by rw [hD]; exact docsC_ok T _ hm4)
    have HDi := Lib.hid (show IsIdx D (D.map entO) by rw [hD]; exact docsC_idx T _ hm4)
    have HDz : Hid (∀ d ∈ D, d.1 ∈ sixN ∧ d.2.2.size ≤ 200) := Lib.hid (by rw [hD]; exact docsC_mem T _ hm4)
    have HDn : Hid ((nms D).Nodup) := Lib.hid (by rw [hD]; exact docsC_nodup T _ hm4)
    have H2 := HD
    rw [← hD] at H2
    have HDl := Lib.hid hDl
    clear hD HD hk hmT hm hDl
    go_wp2_with fail
    refine (build_any _ wr _ D H2.out.1.docs.read HDok.out).mono ?_
    rintro e w3 ⟨u3, I, rfl, hI, hx3, hc3⟩
    have hIe := hI.unique HDi.out
    obtain ⟨a3, c3, rfl, _, _⟩ := hx3.shape
    have hIl : I.length = D.length := by rw [hIe, List.length_map]
    have HIe := Lib.hid (And.intro hIe (And.intro (hI.ok HDok.out) hIl))
    have H3 := Lib.hid (And.intro hx3 hc3)
    clear hI hx3 hc3 hIe hIl
    obtain ⟨L, hL⟩ : ∃ L, L = J.bs (J.logOf (D.map recD)) := ⟨_, rfl⟩
    have hLs : L.size ≤ 40000 := by rw [hL, J.bs_size]; exact docs_log HDok.out (by have := HDl.out; omega)
    have Hsv : Hid (Calls Tryz.prog 7 #[.slice a3 I.length c3] w3 fun e w' => e = .returned (.tuple #[.string L, .int .i64 0]) ∧ Chg [] w3 w') := Lib.hid (by
     have h1 := save_any _ _ w3 _ I H3.out.1 HIe.out.2.1 (fun x hx => by
      rw [HIe.out.1] at hx
      obtain ⟨d, _, rfl⟩ := List.mem_map.1 hx
      exact ⟨_, rfl, ck_lt _⟩) (by rw [HIe.out.1, map_recI]; exact docs_log HDok.out (by have := HDl.out; omega))
     rw [HIe.out.1, map_recI, ← hL, List.length_map] at h1
     rw [HIe.out.2.2]
     exact h1)
    have HL := Lib.hid hL
    clear hL
    go_wp2_with fail
    refine Hsv.out.mono ?_
    rintro e w4 ⟨rfl, hc4⟩
    have H4 := Lib.hid (H3.out.2.trans hc4)
    have Hch4 := Lib.hid (H1.out.trans (H2.out.2.trans H4.out))
    have HD4 : Hid (DcP (fun g => g < w4.heap.size) w4 (.slice a9 k c9) D ∧ StrsP (fun g => g < w4.heap.size) w4 (.slice a10 k c10) (nms D)) := Lib.hid ⟨DcP.imp (H2.out.1.docs.same H4.out).read fun g hg => hg.2.1, (OwnS.strs (H2.out.1.files.same H4.out)).imp fun g hg => hg.2.1⟩
    obtain ⟨n, hn⟩ : ∃ n : Nat, min (E0.length : Int) 12 = n := ⟨(min (E0.length : Int) 12).toNat, by omega⟩
    have hn12 : n ≤ 12 := by omega
    have hnE : n ≤ E0.length := by omega
    have hn0 : (0 : Int) ≤ (n : Int) := by omega
    have hn1 : (n : Int) ≤ (E0.length : Int) := by omega
    have hn2 : (n : Int) ≤ (c1 : Int) := by omega
    have hn3 : n ≤ c1 := by omega
    clear hc4 Hsv H2 H3 H4
    go_wp2_with fail
    go_loopw [16, 17, 96] (fun nv rv jv wr => ∃ (j : Nat) (E : List F.FEv) (now : Int) (a17 : Option Addr) (c17 : Nat), j ≤ n ∧ jv = .int .i64 (j : Nat) ∧ nv = .int .i64 now ∧ 0 ≤ now ∧ now ≤ 39 * j ∧ rv = .slice a17 E.length c17 ∧ E.length ≤ j ∧ Hid (EvI D E now ∧ F.OwnEv wr w4.heap.size (.slice a17 E.length c17) E ∧ Chg [] w4 wr)) (fun _ _ jv _ => n - (intOf jv).toNat)
    case atStart => exact ⟨0, [], 0, none, 0, by omega, rfl, rfl, by omega, by omega, rfl, by simp, Lib.hid ⟨EvI.nil D, F.OwnEv.nil _ _, Chg.refl _ _⟩⟩
    case round =>
     obtain ⟨j, E, now, a17, c17, hj, rfl, rfl, hw0, hw1, rfl, hEj, HEv⟩ := hrel
     by_cases hlt : j < n
     · as_aux_lemma =>
       have hj1 : (j : Int) < n := by omega
       obtain ⟨g, off, rfl, _, x0, x1, x2⟩ := (HE.out.same (Hch4.out.trans HEv.out.2.2)).cells j (by omega)
       obtain ⟨⟨t, pa, kd⟩, hr⟩ : ∃ r, E0.getD j F.ev0 = r := ⟨_, rfl⟩
       rw [hr] at x0 x1 x2
       simp only at x0 x1 x2
       obtain ⟨ma, hma⟩ : ∃ x, modI t 40 = x := ⟨_, rfl⟩
       have hma1 := modI_bd t 40 (by omega)
       rw [hma] at hma1
       obtain ⟨mb, hmb⟩ : ∃ b : Nat, modI kd 6 = b := ⟨(modI kd 6).toNat, by have := modI_bd kd 6 (by omega); omega⟩
       have hmb1 : mb < 6 := by have := modI_bd kd 6 (by omega); omega
       obtain ⟨mc, hmc⟩ : ∃ x, modI t 3 = x := ⟨_, rfl⟩
       have hmc1 := modI_bd t 3 (by omega)
       rw [hmc] at hmc1
       have Hma := Lib.hid (show ∀ W, Calls Tryz.prog 8 #[.int .i64 t, .int .i64 40] W fun e w' => e = .returned (.int .i64 ma) ∧ w' = W from fun W => by
        refine (mod_any t 40 W (by omega) (by omega)).mono ?_
        rintro e w' ⟨rfl, rfl⟩
        exact ⟨by rw [hma], rfl⟩)
       have Hmb := Lib.hid (show ∀ W, Calls Tryz.prog 8 #[.int .i64 kd, .int .i64 6] W fun e w' => e = .returned (.int .i64 (mb : Nat)) ∧ w' = W from fun W => by
        refine (mod_any kd 6 W (by omega) (by omega)).mono ?_
        rintro e w' ⟨rfl, rfl⟩
        exact ⟨by rw [hmb], rfl⟩)
       have Hmc := Lib.hid (show ∀ W, Calls Tryz.prog 8 #[.int .i64 t, .int .i64 3] W fun e w' => e = .returned (.int .i64 mc) ∧ w' = W from fun W => by
        refine (mod_any t 3 W (by omega) (by omega)).mono ?_
        rintro e w' ⟨rfl, rfl⟩
        exact ⟨by rw [hmc], rfl⟩)
       have Hdc := Lib.hid (fun W => decimal_any mb W (by omega))
       have hps := sixN_dec mb hmb1
       obtain ⟨dk, hdk⟩ : ∃ d, dec mb = d := ⟨_, rfl⟩
       rw [hdk] at Hdc hps
       have hds : dk.size = 1 := by rw [← hdk]; exact dec_size mb (by omega)
       have Hps := Lib.hid hps
       have hwr1 : IntKind.i64.wrap (now + ma) = now + ma := IntWalk.i64_in _ (by omega)
       have hwr2 : IntKind.i64.wrap (1 + mc) = 1 + mc := IntWalk.i64_in _ (by omega)
       obtain ⟨b, hb⟩ : ∃ b, F.coM (F.exM (nms D)) (E ++ [(now + ma, ⟨#[109]⟩ ++ dk, 1 + mc)]) = b := ⟨_, rfl⟩
       have Hb := Lib.hid hb
       clear hma hmb hmc hr hdk hps hb
       go_wp2_with fail
       refine (Hma.out _).mono ?_
       rintro e wz ⟨rfl, rfl⟩
       go_upto_region 21 with (fail)
       go_cut [20] (fun pv wx => ∃ g20, pv = .pointer (some ⟨g20, 0, none⟩) ∧ Hid (wx.heap[g20]? = some (.cells #[.int .i64 (now + ma), .string (⟨#[109]⟩ ++ dk), .int .i64 (1 + mc)] 36 (0, 0)) ∧ Chg [] wr wx))
       case first =>
        as_aux_lemma =>
        obtain ⟨wy, hwy⟩ : ∃ y, y = wr.alloc (.cells #[.int .i64 t, .string pa, .int .i64 kd] 36) := ⟨_, rfl⟩
        rw [← hwy]
        have hbq : wy.heap[wr.heap.size]? = some (.cells #[.int .i64 t, .string pa, .int .i64 kd] 36 (0, 0)) := by rw [hwy]; exact heap_at _ _ _ rfl
        have Hry : Hid (Chg [] wr wy) := Lib.hid (by rw [hwy]; exact (Chg.refl [] wr).alloc _)
        obtain ⟨wx, hwx⟩ : ∃ y, y = wy.drew := ⟨_, rfl⟩
        have hbx : wx.heap[wr.heap.size]? = some (.cells #[.int .i64 t, .string pa, .int .i64 kd] 36 (0, 0)) := by rw [hwx]; exact hbq
        have HX : Hid (∀ W, Chg [] wx W → W.cell? ⟨wr.heap.size, 0, none⟩ = some (.int .i64 t) ∧ W.cell? ⟨wr.heap.size, 2, none⟩ = some (.int .i64 kd)) := Lib.hid fun W hc => by
         have h' := (hc.block _ (lt_of_obj hbx) (by simp)).trans hbx
         exact ⟨cell_of_heap h' rfl, cell_of_heap h' rfl⟩
        have Hxy : Hid (Chg [] wr wx) := Lib.hid (Hry.out.trans (by rw [hwx]; exact (Chg.refl [] wy).drew))
        clear hbq hbx hwy x0 x1 x2
        subst hwx
        refine wp_region_put 12 [some 105, some 106, some 107, some 108, some 109, some 110, some 111, some 112, some 113, some 114, some 115, some 20] (fun j v W => match j with
         | 0 => v = .int .i64 (now + ma)
         | 1 => v = .pointer (some ⟨wr.heap.size, 2, none⟩)
         | 2 => v = .int .i64 kd
         | 3 => v = .int .i64 (mb : Nat)
         | 4 => v = .string dk
         | 5 => v = .string (⟨#[109]⟩ ++ dk)
         | 6 => v = .pointer (some ⟨wr.heap.size, 0, none⟩)
         | 7 => v = .int .i64 t
         | 8 => v = .int .i64 mc
         | 9 => v = .int .i64 (1 + mc)
         | 10 => v = .agg #[.int .i64 (now + ma), .string (⟨#[109]⟩ ++ dk), .int .i64 (1 + mc)]
         | 11 => ∃ g20, v = .pointer (some ⟨g20, 0, none⟩) ∧ W.heap[g20]? = some (.cells #[.int .i64 0, .string ⟨#[]⟩, .int .i64 0] 36 (0, 0)) ∧ wy.heap.size ≤ g20
         | _ => True) (fun _ _ _ => True) (by kernel_rfl) (by kernel_rfl) (by kernel_rfl) (fun _ => trivial) ?_ ?_ ?_
        · intro j v W W2 hcw hR
          match j, hR with
          | 0, hR => exact hR
          | 1, hR => exact hR
          | 2, hR => exact hR
          | 3, hR => exact hR
          | 4, hR => exact hR
          | 5, hR => exact hR
          | 6, hR => exact hR
          | 7, hR => exact hR
          | 8, hR => exact hR
          | 9, hR => exact hR
          | 10, hR => exact hR
          | 11, hR => obtain ⟨g20, h1, h2, h3⟩ := hR; exact ⟨g20, h1, (hcw.block g20 (lt_of_obj h2) (by simp)).trans h2, h3⟩
          | (j + 12), hR => exact trivial
        · intro q o ho hn listed u W hun hall hd hc hG K hK
          match q, ho, hn, hun, hd, hK with
          | 0, ho, _, hun, hd, hK =>
            cases ho
            simp only [getElem_toArray, getElem_cons_zero, getElem_cons_succ]
            simp only [putU, Nat.reduceAdd, Act.put, setIfInBounds_toArray, set_cons_zero, set_cons_succ]
            have hS := HX.out W hc
            have y0 := hS.1
            have y2 := hS.2
            clear hS
            go_simp
            have hk := hK _ _ (Chg.refl [] W) rfl trivial
            simp only [putU, Nat.reduceAdd, Act.put, setIfInBounds_toArray, set_cons_zero, set_cons_succ, getElem_toArray, getElem_cons_zero, getElem_cons_succ] at hk
            exact hk
          | 1, ho, _, hun, hd, hK =>
            cases ho
            simp only [getElem_toArray, getElem_cons_zero, getElem_cons_succ]
            simp only [putU, Nat.reduceAdd, Act.put, setIfInBounds_toArray, set_cons_zero, set_cons_succ]
            have hS := HX.out W hc
            have y0 := hS.1
            have y2 := hS.2
            clear hS
            go_simp
            have hk := hK _ _ (Chg.refl [] W) rfl trivial
            simp only [putU, Nat.reduceAdd, Act.put, setIfInBounds_toArray, set_cons_zero, set_cons_succ, getElem_toArray, getElem_cons_zero, getElem_cons_succ] at hk
            exact hk
          | 2, ho, _, hun, hd, hK =>
            have h1 : u 1 = .pointer (some ⟨wr.heap.size, 2, none⟩) := hd 1 (by kernel_rfl) (by decide)
            cases ho
            simp only [getElem_toArray, getElem_cons_zero, getElem_cons_succ]
            simp only [putU, Nat.reduceAdd, Act.put, setIfInBounds_toArray, set_cons_zero, set_cons_succ, h1]
            have hS := HX.out W hc
            have y0 := hS.1
            have y2 := hS.2
            clear hS
            go_simp
            have hk := hK _ _ (Chg.refl [] W) rfl trivial
            simp only [putU, Nat.reduceAdd, Act.put, setIfInBounds_toArray, set_cons_zero, set_cons_succ, getElem_toArray, getElem_cons_zero, getElem_cons_succ, h1] at hk
            exact hk
          | 3, ho, _, hun, hd, hK =>
            have h2 : u 2 = .int .i64 kd := hd 2 (by kernel_rfl) (by decide)
            cases ho
            simp only [getElem_toArray, getElem_cons_zero, getElem_cons_succ]
            simp only [putU, Nat.reduceAdd, Act.put, setIfInBounds_toArray, set_cons_zero, set_cons_succ, h2]
            have hS := HX.out W hc
            have y0 := hS.1
            have y2 := hS.2
            clear hS
            go_simp
            go_at_call 8
            refine (Hmb.out _).mono ?_
            rintro e X ⟨rfl, hX⟩
            rw [hX]
            clear hX
            have hk := hK _ _ (Chg.refl [] W) rfl trivial
            simp only [putU, Nat.reduceAdd, Act.put, setIfInBounds_toArray, set_cons_zero, set_cons_succ, getElem_toArray, getElem_cons_zero, getElem_cons_succ, h2] at hk
            exact hk
          | 4, ho, _, hun, hd, hK =>
            have h3 : u 3 = .int .i64 (mb : Nat) := hd 3 (by kernel_rfl) (by decide)
            cases ho
            simp only [getElem_toArray, getElem_cons_zero, getElem_cons_succ]
            simp only [putU, Nat.reduceAdd, Act.put, setIfInBounds_toArray, set_cons_zero, set_cons_succ, h3]
            have hS := HX.out W hc
            have y0 := hS.1
            have y2 := hS.2
            clear hS
            go_simp
            go_at_call 5
            refine (Hdc.out _).mono ?_
            rintro e X ⟨rfl, hX⟩
            rw [hX]
            clear hX
            have hk := hK _ _ (Chg.refl [] W) rfl trivial
            simp only [putU, Nat.reduceAdd, Act.put, setIfInBounds_toArray, set_cons_zero, set_cons_succ, getElem_toArray, getElem_cons_zero, getElem_cons_succ, h3] at hk
            exact hk
          | 5, ho, _, hun, hd, hK =>
            have h4 : u 4 = .string dk := hd 4 (by kernel_rfl) (by decide)
            cases ho
            simp only [getElem_toArray, getElem_cons_zero, getElem_cons_succ]
            simp only [putU, Nat.reduceAdd, Act.put, setIfInBounds_toArray, set_cons_zero, set_cons_succ, h4]
            have hS := HX.out W hc
            have y0 := hS.1
            have y2 := hS.2
            clear hS
            go_simp
            have hk := hK _ _ (Chg.refl [] W) rfl trivial
            simp only [putU, Nat.reduceAdd, Act.put, setIfInBounds_toArray, set_cons_zero, set_cons_succ, getElem_toArray, getElem_cons_zero, getElem_cons_succ, h4] at hk
            exact hk
          | 6, ho, _, hun, hd, hK =>
            cases ho
            simp only [getElem_toArray, getElem_cons_zero, getElem_cons_succ]
            simp only [putU, Nat.reduceAdd, Act.put, setIfInBounds_toArray, set_cons_zero, set_cons_succ]
            have hS := HX.out W hc
            have y0 := hS.1
            have y2 := hS.2
            clear hS
            go_simp
            have hk := hK _ _ (Chg.refl [] W) rfl trivial
            simp only [putU, Nat.reduceAdd, Act.put, setIfInBounds_toArray, set_cons_zero, set_cons_succ, getElem_toArray, getElem_cons_zero, getElem_cons_succ] at hk
            exact hk
          | 7, ho, _, hun, hd, hK =>
            have h6 : u 6 = .pointer (some ⟨wr.heap.size, 0, none⟩) := hd 6 (by kernel_rfl) (by decide)
            cases ho
            simp only [getElem_toArray, getElem_cons_zero, getElem_cons_succ]
            simp only [putU, Nat.reduceAdd, Act.put, setIfInBounds_toArray, set_cons_zero, set_cons_succ, h6]
            have hS := HX.out W hc
            have y0 := hS.1
            have y2 := hS.2
            clear hS
            go_simp
            have hk := hK _ _ (Chg.refl [] W) rfl trivial
            simp only [putU, Nat.reduceAdd, Act.put, setIfInBounds_toArray, set_cons_zero, set_cons_succ, getElem_toArray, getElem_cons_zero, getElem_cons_succ, h6] at hk
            exact hk
          | 8, ho, _, hun, hd, hK =>
            have h7 : u 7 = .int .i64 t := hd 7 (by kernel_rfl) (by decide)
            cases ho
            simp only [getElem_toArray, getElem_cons_zero, getElem_cons_succ]
            simp only [putU, Nat.reduceAdd, Act.put, setIfInBounds_toArray, set_cons_zero, set_cons_succ, h7]
            have hS := HX.out W hc
            have y0 := hS.1
            have y2 := hS.2
            clear hS
            go_simp
            go_at_call 8
            refine (Hmc.out _).mono ?_
            rintro e X ⟨rfl, hX⟩
            rw [hX]
            clear hX
            have hk := hK _ _ (Chg.refl [] W) rfl trivial
            simp only [putU, Nat.reduceAdd, Act.put, setIfInBounds_toArray, set_cons_zero, set_cons_succ, getElem_toArray, getElem_cons_zero, getElem_cons_succ, h7] at hk
            exact hk
          | 9, ho, _, hun, hd, hK =>
            have h8 : u 8 = .int .i64 mc := hd 8 (by kernel_rfl) (by decide)
            cases ho
            simp only [getElem_toArray, getElem_cons_zero, getElem_cons_succ]
            simp only [putU, Nat.reduceAdd, Act.put, setIfInBounds_toArray, set_cons_zero, set_cons_succ, h8]
            have hS := HX.out W hc
            have y0 := hS.1
            have y2 := hS.2
            clear hS
            go_simp
            have hk := hK _ _ (Chg.refl [] W) rfl trivial
            simp only [putU, Nat.reduceAdd, Act.put, setIfInBounds_toArray, set_cons_zero, set_cons_succ, getElem_toArray, getElem_cons_zero, getElem_cons_succ, h8] at hk
            exact hk
          | 10, ho, _, hun, hd, hK =>
            have h0 : u 0 = .int .i64 (now + ma) := hd 0 (by kernel_rfl) (by decide)
            have h5 : u 5 = .string (⟨#[109]⟩ ++ dk) := hd 5 (by kernel_rfl) (by decide)
            have h9 : u 9 = .int .i64 (1 + mc) := hd 9 (by kernel_rfl) (by decide)
            cases ho
            simp only [getElem_toArray, getElem_cons_zero, getElem_cons_succ]
            simp only [putU, Nat.reduceAdd, Act.put, setIfInBounds_toArray, set_cons_zero, set_cons_succ, h0, h5, h9]
            have hS := HX.out W hc
            have y0 := hS.1
            have y2 := hS.2
            clear hS
            go_simp
            have hk := hK _ _ (Chg.refl [] W) rfl trivial
            simp only [putU, Nat.reduceAdd, Act.put, setIfInBounds_toArray, set_cons_zero, set_cons_succ, getElem_toArray, getElem_cons_zero, getElem_cons_succ, h0, h5, h9] at hk
            exact hk
          | 11, ho, _, hun, hd, hK =>
            cases ho
            simp only [getElem_toArray, getElem_cons_zero, getElem_cons_succ]
            simp only [putU, Nat.reduceAdd, Act.put, setIfInBounds_toArray, set_cons_zero, set_cons_succ]
            have hS := HX.out W hc
            have y0 := hS.1
            have y2 := hS.2
            clear hS
            go_simp
            have hcw : Chg [] W (W.alloc (.cells #[.int .i64 0, .string ⟨#[]⟩, .int .i64 0] 36)) := (Chg.refl _ _).alloc _
            have hk := hK _ _ hcw ⟨W.heap.size, rfl, heap_at _ _ _ rfl, Nat.le_trans (show wy.heap.size ≤ wy.drew.heap.size from Nat.le_refl _) hc.size⟩ trivial
            simp only [putU, Nat.reduceAdd, Act.put, setIfInBounds_toArray, set_cons_zero, set_cons_succ, getElem_toArray, getElem_cons_zero, getElem_cons_succ] at hk
            exact hk
          | (q + 12), _, hn, _, _, _ => exact absurd hn (by omega)
        · intro u W hc hR hG
          have h10 : u 10 = .agg #[.int .i64 (now + ma), .string (⟨#[109]⟩ ++ dk), .int .i64 (1 + mc)] := hR 10 (by decide)
          obtain ⟨g20, h11, f20, l20⟩ := hR 11 (by decide)
          have r0 := cell_of_heap f20 (i := 0) rfl
          have r1 := cell_of_heap f20 (i := 1) rfl
          have r2 := cell_of_heap f20 (i := 2) rfl
          have fr := fun i => frozen_of_heap (i := i) f20
          have hend := ev_stored f20 (now + ma) (⟨#[109]⟩ ++ dk) (1 + mc)
          simp only [putU, Nat.reduceAdd, Act.put, setIfInBounds_toArray, set_cons_zero, set_cons_succ, h10, h11]
          have HF := Lib.hid (And.intro hend (And.intro l20 hc))
          clear hend f20 l20 hc hR hG
          refine anyU_one (k := 12) (by kernel_rfl) rfl (fun K hK => ?_)
          go_simp
          refine hK _ _ (fun _ => trivial) trivial ?_
          clear hK K
          refine anyU_done (by kernel_rfl) ?_
          go_wp2_with fail
          go_meet
          exact ⟨g20, rfl, Lib.hid ⟨HF.out.1, (Hry.out.trans ((Chg.refl [] wy).drew.trans HF.out.2.2)).comp (st3_chg _ _ _ _ _) fun g hg => Or.inr (by rw [List.mem_singleton.1 hg]; have := HF.out.2.1; have := Hry.out.size; omega)⟩⟩
       case rest =>
        obtain ⟨wm, hwm⟩ : ∃ y, y = wc := ⟨_, rfl⟩
        subst hwm
        obtain ⟨g20, rfl, HX0⟩ := hcut
        have HW := Lib.hid (HEv.out.2.2.trans HX0.out.2)
        have HE1 := Lib.hid (HEv.out.2.1.same HX0.out.2)
        have HI := Lib.hid HEv.out.1
        have Hep : Hid (∀ e ∈ E ++ [(now + ma, ⟨#[109]⟩ ++ dk, 1 + mc)], e.2.1.size ≤ maxLen ∧ F.vk e.2.2 = true) := Lib.hid fun e he => by
         rcases List.mem_append.1 he with he | he
         · refine ⟨HI.out.tim.path e he, ?_⟩
           have := HI.out.tim.kind e he
           unfold F.vk; simp; omega
         · rw [List.mem_singleton.1 he]
           refine ⟨by show (_ : ByteArray).size ≤ _; rw [sixN_size Hps.out]; decide, ?_⟩
           unfold F.vk; simp; omega
        have HCl : Hid (∀ W, Chg [] wm W → Calls Tryz.prog 10 #[.slice a17 E.length c17] W (EclPost E wm W)) := Lib.hid fun W hW => by
         refine (evClone_any _ W _ E (HE1.out.same hW).evs (by omega)).mono ?_
         rintro e w' ⟨v', rfl, ho, hc⟩
         obtain ⟨a, c, rfl⟩ := ownsRow_shape ho
         exact ⟨a, c, rfl, OwnEv.low ho hW.size, hW.trans hc, hc⟩
        have HCo : Hid (∀ W a c, Chg [] wm W → F.OwnEv W wm.heap.size (.slice a (E.length + 1) c) (E ++ [(now + ma, ⟨#[109]⟩ ++ dk, 1 + mc)]) → Calls Tryz.prog 9 #[.slice a10 k c10, .slice a (E.length + 1) c] W fun e w' => e = .returned (.bool b) ∧ Chg [] W w') := Lib.hid fun W a c hW ho => by
         have h1 := F.consistent_any _ _ W _ _ (nms D) (E ++ [(now + ma, ⟨#[109]⟩ ++ dk, 1 + mc)]) (HD4.out.2.same (HW.out.trans hW)) ho.evs (fun x hx => by
          obtain ⟨d, hd, rfl⟩ := List.mem_map.1 hx
          rw [sixN_size (HDz.out d hd).1]; decide) (fun e he => (Hep.out e he).1) (fun e he => (Hep.out e he).2)
         rw [Hb.out] at h1
         exact h1
        have hbx := HX0.out.1
        have y0 := cell_of_heap hbx (i := 0) rfl
        have y1 := cell_of_heap hbx (i := 1) rfl
        have y2 := cell_of_heap hbx (i := 2) rfl
        have Hbx := Lib.hid hbx
        have HX2 := Lib.hid HX0.out.2
        clear hbx HX0 HEv
        go_upto_region 22 with (fail)
        go_cut [122] (fun bv wx => bv = .bool b ∧ Hid (Chg [] wm wx))
        case first =>
         as_aux_lemma =>
         have HBk : Hid (∀ W, Chg [] wm W → W.heap[g20]? = some (.cells #[.int .i64 (now + ma), .string (⟨#[109]⟩ ++ dk), .int .i64 (1 + mc)] 36 (0, 0))) := Lib.hid fun W hW => (hW.block _ (lt_of_obj Hbx.out) (by simp)).trans Hbx.out
         refine wp_region_U (fun w' => w'.heap[g20]? = some (.cells #[.int .i64 (now + ma), .string (⟨#[109]⟩ ++ dk), .int .i64 (1 + mc)] 36 (0, 0))) (fun w' => w'.heap[g20]? = some (.cells #[.int .i64 (now + ma), .string (⟨#[109]⟩ ++ dk), .int .i64 (1 + mc)] 36 (0, 0))) 6 (by kernel_rfl) ?_
         intro wd hwd
         have Hcd := Lib.hid (show Chg [] wm wd by rw [hwd]; exact (Chg.refl _ _).drew)
         have hS := HBk.out wd Hcd.out
         clear hwd y0 y1 y2
         refine anyU_pure (i := 0) (v := .slice a10 k c10) rfl (by kernel_rfl) (fun _ _ _ h => h) (Or.inl ⟨by rfl, fun w' hS => by go_simp⟩) (fun _ => hS) hS ?_
         simp only [Act.put, setIfInBounds_toArray, set_cons_zero, set_cons_succ]
         refine anyU_pure (i := 1) (v := .slice a17 E.length c17) rfl (by kernel_rfl) (fun _ _ _ h => h) (Or.inl ⟨by rfl, fun w' hS => by go_simp⟩) (fun _ => hS) hS ?_
         simp only [Act.put, setIfInBounds_toArray, set_cons_zero, set_cons_succ]
         refine anyU_keep (i := 3) (v := .agg #[.int .i64 (now + ma), .string (⟨#[109]⟩ ++ dk), .int .i64 (1 + mc)]) rfl (by kernel_rfl) (fun _ _ _ h => h) (Or.inl ⟨by rfl, fun w' hS => by
          have y0 := cell_of_heap hS (i := 0) rfl
          have y1 := cell_of_heap hS (i := 1) rfl
          have y2 := cell_of_heap hS (i := 2) rfl
          clear hS
          go_simp⟩) (fun _ h => h) (fun _ => hS) hS ?_
         simp only [Act.put, setIfInBounds_toArray, set_cons_zero, set_cons_succ]
         have Hrun : Hid (∀ W a c nb, Chg [] wm W → F.OwnEv W wm.heap.size (.slice a E.length c) E → W.heap[nb]? = some (.cells #[.int .i64 (now + ma), .string (⟨#[109]⟩ ++ dk), .int .i64 (1 + mc)] 36 (0, 0)) → ∃ a7 c7 w7, (Builtin.append_ #[23, 23] 23 #[.slice a E.length c, .slice (some ⟨nb, 0, none⟩) 1 1]).run Tryz.prog W = .ok (.slice a7 (E.length + 1) c7) w7 ∧ Hid (F.OwnEv w7 wm.heap.size (.slice a7 (E.length + 1) c7) (E ++ [(now + ma, ⟨#[109]⟩ ++ dk, 1 + mc)]) ∧ Chg [] wm w7)) := Lib.hid fun W a c nb hW ho hb => by
          obtain ⟨a7, c7, w7, hr7, ho7, hc7⟩ := run_append_ev W 23 wm.heap.size _ E (now + ma, ⟨#[109]⟩ ++ dk, 1 + mc) nb ho hb (by omega) hW.size
          exact ⟨a7, c7, w7, hr7, Lib.hid ⟨ho7, hW.comp hc7 fun g hg => Or.inr (ownsRow_ge ho (by simpa using hg)).1⟩⟩
         refine anyU_two (k := 2) (k' := 4) (by kernel_rfl) rfl rfl (fun K hK => ?_) (fun K hK => ?_)
         · go_simp
           refine (HCl.out wd Hcd.out).mono ?_
           rintro e wq ⟨aq, cq, rfl, hoq, hcq, _⟩
           have HQ := Lib.hid (And.intro hoq hcq)
           clear hoq hcq
           refine hK _ _ (fun _ => HBk.out _ HQ.out.2) (HBk.out _ HQ.out.2) ?_
           clear hK K hS
           refine anyU_one (k := 4) (by kernel_rfl) rfl (fun K hK => ?_)
           go_simp
           obtain ⟨wb, hwb⟩ : ∃ y, y = wq.alloc (.cells #[.int .i64 (now + ma), .string (⟨#[109]⟩ ++ dk), .int .i64 (1 + mc)] 36) := ⟨_, rfl⟩
           have Hcb := Lib.hid (show Chg [] wm wb by rw [hwb]; exact HQ.out.2.trans ((Chg.refl _ _).alloc _))
           obtain ⟨a7, c7, w7, hr7, H7⟩ := Hrun.out wb aq cq wq.heap.size Hcb.out (by rw [hwb]; exact HQ.out.1.same ((Chg.refl _ _).alloc _)) (by rw [hwb]; exact heap_at _ _ _ rfl)
           rw [← hwb]
           have Hr7 := Lib.hid hr7
           clear hr7 hwb
           refine hK _ _ (fun _ => HBk.out _ Hcb.out) (HBk.out _ Hcb.out) ?_
           clear hK K
           refine anyU_one (k := 5) (by kernel_rfl) rfl (fun K hK => ?_)
           refine step_append_run rfl _ _ _ rfl _ _ _ _ rfl rfl Hr7.out ?_
           refine hK _ _ (fun _ => HBk.out _ H7.out.2) (HBk.out _ H7.out.2) ?_
           clear hK K
           refine anyU_one (k := 6) (by kernel_rfl) rfl (fun K hK => ?_)
           go_simp
           refine (HCo.out _ _ _ H7.out.2 H7.out.1).mono ?_
           rintro e w8 ⟨rfl, hc8⟩
           have H8 := Lib.hid (H7.out.2.trans hc8)
           clear hc8
           refine hK _ _ (fun _ => HBk.out _ H8.out) (HBk.out _ H8.out) ?_
           clear hK K
           refine anyU_done (by kernel_rfl) ?_
           go_wp2_with fail
           go_meet
           exact ⟨rfl, H8⟩
         · go_simp
           obtain ⟨wb, hwb⟩ : ∃ y, y = wd.alloc (.cells #[.int .i64 (now + ma), .string (⟨#[109]⟩ ++ dk), .int .i64 (1 + mc)] 36) := ⟨_, rfl⟩
           have Hcb := Lib.hid (show Chg [] wm wb by rw [hwb]; exact Hcd.out.trans ((Chg.refl _ _).alloc _))
           have hbb : wb.heap[wd.heap.size]? = some (.cells #[.int .i64 (now + ma), .string (⟨#[109]⟩ ++ dk), .int .i64 (1 + mc)] 36 (0, 0)) := by rw [hwb]; exact heap_at _ _ _ rfl
           have Hbb := Lib.hid hbb
           rw [← hwb]
           clear hbb hwb hS
           refine hK _ _ (fun _ => HBk.out _ Hcb.out) (HBk.out _ Hcb.out) ?_
           clear hK K
           refine anyU_one (k := 2) (by kernel_rfl) rfl (fun K hK => ?_)
           go_simp
           refine (HCl.out wb Hcb.out).mono ?_
           rintro e wq ⟨aq, cq, rfl, hoq, hcq, hcw⟩
           obtain ⟨a7, c7, w7, hr7, H7⟩ := Hrun.out wq aq cq wd.heap.size hcq hoq ((hcw.block _ (lt_of_obj Hbb.out) (by simp)).trans Hbb.out)
           have HQ := Lib.hid hcq
           have Hr7 := Lib.hid hr7
           clear hoq hcq hcw hr7
           refine hK _ _ (fun _ => HBk.out _ HQ.out) (HBk.out _ HQ.out) ?_
           clear hK K
           refine anyU_one (k := 5) (by kernel_rfl) rfl (fun K hK => ?_)
           refine step_append_run rfl _ _ _ rfl _ _ _ _ rfl rfl Hr7.out ?_
           refine hK _ _ (fun _ => HBk.out _ H7.out.2) (HBk.out _ H7.out.2) ?_
           clear hK K
           refine anyU_one (k := 6) (by kernel_rfl) rfl (fun K hK => ?_)
           go_simp
           refine (HCo.out _ _ _ H7.out.2 H7.out.1).mono ?_
           rintro e w8 ⟨rfl, hc8⟩
           have H8 := Lib.hid (H7.out.2.trans hc8)
           clear hc8
           refine hK _ _ (fun _ => HBk.out _ H8.out) (HBk.out _ H8.out) ?_
           clear hK K
           refine anyU_done (by kernel_rfl) ?_
           go_wp2_with fail
           go_meet
           exact ⟨rfl, H8⟩
        case rest =>
         obtain ⟨rfl, H22⟩ := hcut
         have hEw := HE1.out.same H22.out
         have hbw : wc.heap[g20]? = some (.cells #[.int .i64 (now + ma), .string (⟨#[109]⟩ ++ dk), .int .i64 (1 + mc)] 36 (0, 0)) := (H22.out.block _ (lt_of_obj Hbx.out) (by simp)).trans Hbx.out
         have Hcw := Lib.hid (HW.out.trans H22.out)
         clear y0 y1 y2 HCo HCl
         cases b with
         | false =>
           have HEw := Lib.hid hEw
           clear hEw hbw
           go_wp2_with fail
           exact ⟨⟨j + 1, E, now + ma, a17, c17, by omega, by go_num, rfl, by omega, by omega, rfl, by omega, Lib.hid ⟨HI.out.later (by omega), HEw.out, Hcw.out⟩⟩, by simp [intOf]; omega⟩
         | true =>
           have y0 := cell_of_heap hbw (i := 0) rfl
           have y1 := cell_of_heap hbw (i := 1) rfl
           have y2 := cell_of_heap hbw (i := 2) rfl
           obtain ⟨w8, hw8⟩ : ∃ y, y = wc.alloc (.cells #[.int .i64 (now + ma), .string (⟨#[109]⟩ ++ dk), .int .i64 (1 + mc)] 36) := ⟨_, rfl⟩
           obtain ⟨n8, hn8⟩ : ∃ y, y = wc.heap.size := ⟨_, rfl⟩
           have hc8 : Chg [] wc w8 := by rw [hw8]; exact (Chg.refl [] _).alloc _
           have hb8 : w8.heap[n8]? = some (.cells #[.int .i64 (now + ma), .string (⟨#[109]⟩ ++ dk), .int .i64 (1 + mc)] 36 (0, 0)) := by rw [hw8, hn8]; exact heap_at _ _ _ rfl
           obtain ⟨a7, c7, w7, hr7, ho7, hc7⟩ := run_append_ev w8 23 w4.heap.size _ E (now + ma, ⟨#[109]⟩ ++ dk, 1 + mc) n8 (hEw.same hc8) hb8 (by omega) (Hcw.out.trans hc8).size
           have Hr7 := Lib.hid hr7
           have H7 := Lib.hid (show F.OwnEv w7 w4.heap.size (.slice a7 (E.length + 1) c7) (E ++ [(now + ma, ⟨#[109]⟩ ++ dk, 1 + mc)]) ∧ Chg [] w4 w7 from ⟨ho7, (Hcw.out.trans hc8).comp hc7 fun g hg => Or.inr (ownsRow_ge hEw (by simpa using hg)).1⟩)
           have HW8 := Lib.hid (And.intro hw8 hn8)
           have hlE : (E ++ [(now + ma, ⟨#[109]⟩ ++ dk, 1 + mc)]).length = E.length + 1 := by simp
           have HlE := Lib.hid hlE
           clear hEw hbw hw8 hn8 hc8 hb8 hr7 ho7 hc7 hlE
           go_wp2_with (at_builtin; rw [← HW8.out.1, ← HW8.out.2]; refine wpList_append_run rfl _ _ _ rfl _ _ _ _ rfl rfl Hr7.out ?_)
           refine ⟨⟨j + 1, E ++ [(now + ma, ⟨#[109]⟩ ++ dk, 1 + mc)], now + ma, a7, c7, by omega, by go_num, rfl, by omega, by omega, by rw [HlE.out], by rw [HlE.out]; omega, Lib.hid ⟨HI.out.snoc (by omega) (by omega) (by omega) (by omega) Hps.out Hb.out, ?_, H7.out.2⟩⟩, by simp [intOf]; omega⟩
           rw [HlE.out]
           exact H7.out.1
     · have hj1 : ¬ ((j : Int) < n) := by omega
       obtain rfl : j = n := by omega
       obtain ⟨d, hd⟩ : ∃ x, modI xd 50 = x := ⟨_, rfl⟩
       have hdb := modI_bd xd 50 (by omega)
       rw [hd] at hdb
       have Hd := Lib.hid (show ∀ W, Calls Tryz.prog 8 #[.int .i64 xd, .int .i64 50] W fun e w' => e = .returned (.int .i64 d) ∧ w' = W from fun W => by
        refine (mod_any xd 50 W (by omega) (by omega)).mono ?_
        rintro e w' ⟨rfl, rfl⟩
        exact ⟨by rw [hd], rfl⟩)
       have HBt := Lib.hid (F.batches_any _ wr _ E d HEv.out.2.1.evs (HEv.out.1.tim.ok (by omega)) (by omega) (by omega))
       clear hd
       go_wp2_with fail
       refine (Hd.out _).mono ?_
       rintro e wz ⟨rfl, rfl⟩
       go_wp2_with fail
       refine HBt.out.mono ?_
       rintro e w5 ⟨bv, rfl, hB, hc5⟩
       have hvk : F.Vk E := fun e he => HEv.out.1.tim.kind e he
       have hbe : ∀ e ∈ (F.bat d [] E).flatMap (·.2), e.2.1 ∈ sixN ∧ 0 ≤ e.1 ∧ e.1 < 1000 := bat_ev (Q1 := fun t => 0 ≤ t ∧ t < 1000) (Q2 := fun x => x ∈ sixN) d E [] fun e he => by
        have he : e ∈ E := by simpa using he
        have := HEv.out.1.tim.time e he
        exact ⟨HEv.out.1.path e he, this.1, by omega⟩
       have hre := run_each d HDn.out hvk HEv.out.1.co HDz.out hbe
       have hnl := names_law d HDn.out hvk HEv.out.1.co
       obtain ⟨BL, hBL⟩ : ∃ BL, F.bat d [] E = BL := ⟨_, rfl⟩
       rw [hBL] at hB hbe hre hnl
       obtain ⟨va, vc, rfl, hvl⟩ := hB.shape
       have HbP := Lib.hid hB.bats
       have Hbe := Lib.hid hbe
       have Hre := Lib.hid hre
       have Hnl := Lib.hid hnl
       have H5 := Lib.hid (HEv.out.2.2.trans hc5)
       have HEv5 := Lib.hid (HEv.out.2.1.same hc5)
       have HI5 := Lib.hid HEv.out.1
       unfold maxLen at hvl
       have HD5 := Lib.hid (And.intro (HD4.out.1.same H5.out) (HD4.out.2.same H5.out))
       have Hdcl := Lib.hid (docClone_any _ w5 _ D HD5.out.1 (by have := HDl.out; omega))
       clear hB hbe hre hnl hBL hc5 hvk HBt Hd HEv
       go_wp2_with fail
       refine Hdcl.out.mono ?_
       rintro e w6 ⟨v6, rfl, ho6, hc6⟩
       obtain ⟨a6, c6, rfl⟩ := ownsRow_shape ho6
       have H6 := Lib.hid (And.intro ho6 hc6)
       clear ho6 hc6 Hdcl
       go_wp2_with fail
       go_loopw [23, 141] (fun v iv wr => ∃ (i : Nat) (D1 : List Dc) (a23 : Option Addr) (c23 : Nat), i ≤ BL.length ∧ iv = .int .i64 (i : Nat) ∧ v = .slice a23 D1.length c23 ∧ Hid (D1 = runD D ((BL.take i).flatMap (·.2)) ∧ OwnD wr w5.heap.size (.slice a23 D1.length c23) D1 ∧ Chg [] w5 wr)) (fun _ iv _ => BL.length - (intOf iv).toNat)
       case atStart => exact ⟨0, D, a6, c6, by omega, rfl, rfl, Lib.hid ⟨rfl, H6.out.1, H6.out.2⟩⟩
       case round =>
        obtain ⟨i, D1, a23, c23, hi, rfl, rfl, HR1⟩ := hrel
        by_cases hlt : i < BL.length
        · as_aux_lemma =>
          have hi1 : (i : Int) < BL.length := by omega
          obtain ⟨g, off, u, rfl, c0, c1, c2⟩ := HbP.out.at i hlt
          have hft := F.flat_take (·.2) BL i hlt (0, [])
          obtain ⟨l, hl⟩ : ∃ l, (BL.getD i (0, [])).2 = l := ⟨_, rfl⟩
          rw [hl] at c2 hft
          obtain ⟨pre, hpre⟩ : ∃ x, (BL.take i).flatMap (·.2) = x := ⟨_, rfl⟩
          rw [hpre] at hft
          have hsp : BL.flatMap (·.2) = pre ++ l ++ (BL.drop (i + 1)).flatMap (·.2) := by
           rw [← hft, ← List.flatMap_append, List.take_append_drop]
          have HRun : Hid (∀ m2, RunI D (pre ++ l.take m2)) := Lib.hid fun m2 => Hre.out _ (l.drop m2 ++ (BL.drop (i + 1)).flatMap (·.2)) (by rw [hsp, List.append_assoc, List.append_assoc, ← List.append_assoc (l.take m2), List.take_append_drop])
          have HlE : Hid (∀ e ∈ l, e.2.1 ∈ sixN ∧ 0 ≤ e.1 ∧ e.1 < 1000) := Lib.hid fun e he => Hbe.out e (by rw [hsp]; simp [he])
          obtain ⟨ua, uc, rfl, hul, huc⟩ := c2.shape
          have HR := HR1
          rw [hpre] at HR
          have k1 := (HR.out.2.2.cell (lt_of_cell c1) (by simp)).trans c1
          have Hc2 := Lib.hid c2
          have Hft := Lib.hid (And.intro hft hpre)
          unfold maxLen at hul
          clear c0 c1 c2 hft hl hpre hsp HR1
          go_wp2_with fail
          go_loopw [23, 150] (fun v jv wr => ∃ (m2 : Nat) (D2 : List Dc) (a2 : Option Addr) (c2 : Nat), m2 ≤ l.length ∧ jv = .int .i64 (m2 : Nat) ∧ v = .slice a2 D2.length c2 ∧ Hid (D2 = runD D (pre ++ l.take m2) ∧ OwnD wr w5.heap.size (.slice a2 D2.length c2) D2 ∧ Chg [] w5 wr)) (fun _ jv _ => l.length - (intOf jv).toNat)
          case atStart => exact ⟨0, D1, a23, c23, by omega, rfl, rfl, Lib.hid ⟨by rw [List.take_zero, List.append_nil]; exact HR.out.1, HR.out.2⟩⟩
          case round =>
           obtain ⟨m2, D2, a2, c2, hm2, rfl, rfl, HR2⟩ := hrel
           by_cases hlt2 : m2 < l.length
           · skip
             have hm3 : (m2 : Int) < l.length := by omega
             obtain ⟨g2, o2, he2, _, x0, x1, x2⟩ := (Hc2.out.same HR2.out.2.2).cells m2 hlt2
             subst he2
             have hlm : l.getD m2 F.ev0 ∈ l := by rw [List.getD_eq_getElem?_getD, List.getElem?_eq_getElem hlt2]; simp
             have hlx := HlE.out _ hlm
             have hts : l.take (m2 + 1) = l.take m2 ++ [l.getD m2 F.ev0] := by
              rw [List.take_add_one, List.getD_eq_getElem?_getD, List.getElem?_eq_getElem hlt2]; rfl
             obtain ⟨⟨t, pa, kd⟩, hx⟩ : ∃ x, l.getD m2 F.ev0 = x := ⟨_, rfl⟩
             rw [hx] at x0 x1 x2 hlx hts
             simp only at x0 x1 x2 hlx
             obtain ⟨tn, htn⟩ : ∃ x : Nat, t = (x : Int) := ⟨t.toNat, by omega⟩
             subst htn
             have hrun : runD D (pre ++ l.take (m2 + 1)) = stepD D2 ((tn : Int), pa, kd) := by
              rw [hts, ← List.append_assoc, run_snoc, ← HR2.out.1]
             have hI2 := HRun.out m2
             have hI3 := HRun.out (m2 + 1)
             have HI2 : Hid ((nms D2).Nodup ∧ D2.length ≤ 6) := Lib.hid (by have := hI2.nd; have h2 := hI2.len; rw [← HR2.out.1] at this h2; exact ⟨this, h2⟩)
             have hD2 := HI2.out.2
             have Hrun := Lib.hid hrun
             have Hpa := Lib.hid hlx
             obtain ⟨wb, hwb⟩ : ∃ y, y = wr.alloc (.cells #[.int .i64 (tn : Int), .string pa, .int .i64 kd] 36) := ⟨_, rfl⟩
             obtain ⟨nb, hnb⟩ : ∃ y, y = wr.heap.size := ⟨_, rfl⟩
             have hbb : wb.heap[nb]? = some (.cells #[.int .i64 (tn : Int), .string pa, .int .i64 kd] 36 (0, 0)) := by rw [hwb, hnb]; exact heap_at _ _ _ rfl
             have Hcb := Lib.hid (show Chg [] wr wb by rw [hwb]; exact (Chg.refl [] _).alloc _)
             have Hbb := Lib.hid hbb
             clear hrun hI2 hI3 hlm hlx hts hx hbb
             go_upto_region 36 with (fail)
             rw [← hwb, ← hnb]
             clear hwb hnb x0 x1 x2
             go_wp2_with fail
             go_loopw [27, 156] (fun kv jv wz => ∃ j3 : Nat, j3 ≤ D2.length ∧ jv = .int .i64 (j3 : Nat) ∧ kv = .int .i64 (kOf (idxD (D2.take j3) pa)) ∧ Hid (Chg [] wb wz)) (fun _ jv _ => D2.length - (intOf jv).toNat)
             case atStart => exact ⟨0, by omega, rfl, rfl, Lib.hid (Chg.refl _ _)⟩
             case round =>
              obtain ⟨j3, hj3, rfl, rfl, HZ⟩ := hrel
              by_cases hlt3 : j3 < D2.length
              · as_aux_lemma =>
                have hj4 : (j3 : Int) < D2.length := by omega
                have hge : D2.getD j3 dc0 = D2[j3] := by rw [List.getD_eq_getElem?_getD, List.getElem?_eq_getElem hlt3]; rfl
                obtain ⟨g3, o3, he3, _, z0, _, _⟩ := (HR2.out.2.1.same (Hcb.out.trans HZ.out)).read.cells j3 hlt3
                subst he3
                rw [hge] at z0
                obtain ⟨xn, hxn⟩ : ∃ x, D2[j3].1 = x := ⟨_, rfl⟩
                rw [hxn] at z0
                have y1 : wr.cell? ⟨nb, 1, none⟩ = some (.string pa) := cell_of_heap ((HZ.out.block _ (lt_of_obj Hbb.out) (by simp)).trans Hbb.out) (i := 1) rfl
                have hsuc := idxD_succ HI2.out.1 pa j3 hlt3
                rw [hxn] at hsuc
                by_cases hxp : xn = pa
                · subst hxp
                  rw [if_pos rfl] at hsuc
                  have Hs := Lib.hid hsuc
                  clear hsuc hge hxn
                  go_upto_region 39 with (fail)
                  refine wp_region_readsQ 7 (by kernel_rfl) (by kernel_rfl) ?_
                  intro wd hwd
                  simp only [List.take_succ_cons, List.take_zero, List.drop_succ_cons, List.drop_zero]
                  have hcd : Chg [] wr wd := by rw [hwd]; exact (Chg.refl _ _).drew
                  have r0 := (hcd.cell (lt_of_cell z0) (by simp)).trans z0
                  have r1 := (hcd.cell (lt_of_cell y1) (by simp)).trans y1
                  have Hcd := Lib.hid (HZ.out.trans hcd)
                  clear hcd hwd z0 y1
                  repeat go_big_quiet_step (fail)
                  refine wpQuiet_nil ?_
                  go_wp2_with fail
                  exact ⟨⟨j3 + 1, by omega, by go_num, by rw [Hs.out]; rfl, Hcd⟩, by simp [intOf]; omega⟩
                · rw [if_neg hxp] at hsuc
                  have hxb := str_ne hxp
                  have Hs := Lib.hid hsuc
                  clear hsuc hge hxn
                  go_upto_region 39 with (fail)
                  refine wp_region_readsQ 7 (by kernel_rfl) (by kernel_rfl) ?_
                  intro wd hwd
                  simp only [List.take_succ_cons, List.take_zero, List.drop_succ_cons, List.drop_zero]
                  have hcd : Chg [] wr wd := by rw [hwd]; exact (Chg.refl _ _).drew
                  have r0 := (hcd.cell (lt_of_cell z0) (by simp)).trans z0
                  have r1 := (hcd.cell (lt_of_cell y1) (by simp)).trans y1
                  have Hcd := Lib.hid (HZ.out.trans hcd)
                  clear hcd hwd z0 y1
                  repeat go_big_quiet_step (fail)
                  refine wpQuiet_nil ?_
                  go_wp2_with fail
                  exact ⟨⟨j3 + 1, by omega, by go_num, by rw [Hs.out], Hcd⟩, by simp [intOf]; omega⟩
              · have hj4 : ¬ ((j3 : Int) < D2.length) := by omega
                obtain rfl : j3 = D2.length := by omega
                rw [List.take_length]
                have Hdm := Lib.hid (fun W => decimal3_any tn W (by have := Hpa.out.2.2; omega))
                have y0 : wr.cell? ⟨nb, 0, none⟩ = some (.int .i64 (tn : Int)) := cell_of_heap ((HZ.out.block _ (lt_of_obj Hbb.out) (by simp)).trans Hbb.out) (i := 0) rfl
                have y1 : wr.cell? ⟨nb, 1, none⟩ = some (.string pa) := cell_of_heap ((HZ.out.block _ (lt_of_obj Hbb.out) (by simp)).trans Hbb.out) (i := 1) rfl
                have y2 : wr.cell? ⟨nb, 2, none⟩ = some (.int .i64 kd) := cell_of_heap ((HZ.out.block _ (lt_of_obj Hbb.out) (by simp)).trans Hbb.out) (i := 2) rfl
                obtain ⟨tx, htx⟩ : ∃ x, x = vtext (tn : Int) := ⟨_, rfl⟩
                obtain ⟨dn, hdn⟩ : ∃ x, decN tn = x := ⟨_, rfl⟩
                have hdz : dn.size ≤ 3 := by rw [← hdn]; exact decN_size tn (by have := Hpa.out.2.2; omega)
                rw [hdn] at Hdm
                have Htx := Lib.hid (show vtext (tn : Int) = ⟨#[118, 101, 114, 115, 105, 111, 110, 32, 111, 102, 32]⟩ ++ dn by rw [← hdn]; rfl)
                clear hdn htx
                go_wp2_with fail
                refine (Hdm.out _).mono ?_
                rintro e wq ⟨rfl, hq⟩
                rw [hq]
                clear hq
                cases hio : idxD D2 pa with
                | none =>
                  as_aux_lemma =>
                  simp only [kOf]
                  have hst : runD D (pre ++ l.take (m2 + 1)) = D2 ++ [(pa, 0, (⟨#[118, 101, 114, 115, 105, 111, 110, 32, 111, 102, 32]⟩ ++ dn))] := by
                   rw [Hrun.out, ← Htx.out]; unfold stepD; simp only [hio]
                  have ho2 := HR2.out.2.1.same (Hcb.out.trans HZ.out)
                  have Hcw := Lib.hid (HR2.out.2.2.trans (Hcb.out.trans HZ.out))
                  obtain ⟨w8, hw8⟩ : ∃ y, y = wr.alloc (.cells #[.string pa, .int .i64 0, .string (⟨#[118, 101, 114, 115, 105, 111, 110, 32, 111, 102, 32]⟩ ++ dn)] 28) := ⟨_, rfl⟩
                  obtain ⟨n8, hn8⟩ : ∃ y, y = wr.heap.size := ⟨_, rfl⟩
                  have hc8 : Chg [] wr w8 := by rw [hw8]; exact (Chg.refl [] _).alloc _
                  have hb8 : w8.heap[n8]? = some (.cells #[.string ((pa, 0, (⟨#[118, 101, 114, 115, 105, 111, 110, 32, 111, 102, 32]⟩ ++ dn)) : Dc).1, .int .i64 ((pa, 0, (⟨#[118, 101, 114, 115, 105, 111, 110, 32, 111, 102, 32]⟩ ++ dn)) : Dc).2.1, .string ((pa, 0, (⟨#[118, 101, 114, 115, 105, 111, 110, 32, 111, 102, 32]⟩ ++ dn)) : Dc).2.2] 28 (0, 0)) := by rw [hw8, hn8]; exact heap_at _ _ _ rfl
                  obtain ⟨v7, w7, hr7, ho7, hc7⟩ := run_append_doc w8 25 w5.heap.size _ D2 _ n8 (ho2.same hc8) hb8 (by omega) (Hcw.out.trans hc8).size
                  obtain ⟨a7, c7, rfl⟩ := ownsRow_shape ho7
                  have Hr7 := Lib.hid hr7
                  have H7 := Lib.hid (And.intro hst (And.intro ho7 ((Hcw.out.trans hc8).comp hc7 fun g hg => Or.inr (ownsRow_ge ho2 (by simpa using hg)).1)))
                  have HW8 := Lib.hid (And.intro hw8 hn8)
                  clear hst ho2 hw8 hn8 hc8 hb8 hr7 ho7 hc7 hio
                  go_wp2_with (at_builtin; rw [← HW8.out.1, ← HW8.out.2]; refine wpList_append_run rfl _ _ _ rfl _ _ _ _ rfl rfl Hr7.out ?_)
                  all_goals exact ⟨⟨m2 + 1, D2 ++ [(pa, 0, (⟨#[118, 101, 114, 115, 105, 111, 110, 32, 111, 102, 32]⟩ ++ dn))], a7, c7, by omega, by go_num, by rw [List.length_append]; rfl, Lib.hid ⟨H7.out.1.symm, H7.out.2⟩⟩, by simp [intOf]; omega⟩
                | some kx =>
                  obtain ⟨hkx, hkn⟩ := idxD_some hio
                  have hk2 : (kx : Int) < D2.length := by omega
                  have hk3 : (0 : Int) ≤ (kx : Int) := by omega
                  have hge : D2.getD kx dc0 = D2[kx] := by rw [List.getD_eq_getElem?_getD, List.getElem?_eq_getElem hkx]; rfl
                  have hO4 := HR2.out.2.1.same (Hcb.out.trans HZ.out)
                  have Hcw := Lib.hid (HR2.out.2.2.trans (Hcb.out.trans HZ.out))
                  by_cases hkd : kd = 3
                  · as_aux_lemma =>
                    subst hkd
                    simp only [kOf]
                    have hst : runD D (pre ++ l.take (m2 + 1)) = D2.take kx ++ D2.drop (kx + 1) := by
                     rw [Hrun.out]; unfold stepD; simp only [hio, if_true]
                    obtain ⟨g2, cc, hv, hge2, hgl2⟩ := World.ownsRow.form hO4 (by omega)
                    simp only [Value.slice.injEq] at hv
                    obtain ⟨rfl, hnn, rfl⟩ := hv
                    clear hnn
                    obtain ⟨sv, hsv, hsP⟩ := tail_slice hO4 kx hkx
                    have Hsv := Lib.hid hsv
                    have HsP := Lib.hid hsP
                    have Hcl := Lib.hid (fun W (hW : Chg [] wr W) => docClone_any _ W _ (D2.take kx) (((hO4.same hW).read).take kx (by omega)) (by rw [List.length_take]; omega))
                    obtain ⟨D', hD'⟩ : ∃ x, x = D2.take kx ++ D2.drop (kx + 1) := ⟨_, rfl⟩
                    have hDl' : D'.length ≤ 6 := by rw [hD', List.length_append, List.length_take, List.length_drop]; omega
                    have Hst := Lib.hid (show D' = runD D (pre ++ l.take (m2 + 1)) by rw [hst, hD'])
                    have HD' := Lib.hid hD'
                    have hk4 : (kx : Int) ≤ (c2 : Int) := by have := hO4.read.shape; obtain ⟨_, _, hvv, _, hcp⟩ := this; cases hvv; omega
                    clear hO4 hsv hsP hge hio hkn hst hD'
                    go_upto_region 45 with (fail)
                    clear y0 y1 y2
                    refine wp_region_U (fun _ => True) (fun _ => True) 8 (by kernel_rfl) ?_
                    intro wd hwd
                    have Hcd := Lib.hid (show Chg [] wr wd by rw [hwd]; exact (Chg.refl _ _).drew)
                    clear hwd
                    refine anyU_pure (i := 0) (v := .slice (some ⟨g2, 0, none⟩) D2.length c2) rfl (by kernel_rfl) (fun _ _ _ h => h) (Or.inl ⟨by rfl, fun w' hS => by go_simp⟩) (fun _ => trivial) trivial ?_
                    simp only [Act.put, setIfInBounds_toArray, set_cons_zero, set_cons_succ]
                    refine anyU_pure (i := 1) (v := .int .i64 (kx : Int)) rfl (by kernel_rfl) (fun _ _ _ h => h) (Or.inl ⟨by rfl, fun w' hS => by go_simp⟩) (fun _ => trivial) trivial ?_
                    simp only [Act.put, setIfInBounds_toArray, set_cons_zero, set_cons_succ]
                    refine anyU_pure (i := 2) (v := .slice (some ⟨g2, 0, none⟩) kx c2) rfl (by kernel_rfl) (fun _ _ _ h => h) (Or.inl ⟨by rfl, fun w' hS => by go_simp⟩) (fun _ => trivial) trivial ?_
                    simp only [Act.put, setIfInBounds_toArray, set_cons_zero, set_cons_succ]
                    refine anyU_pure (i := 4) (v := .slice (some ⟨g2, 0, none⟩) D2.length c2) rfl (by kernel_rfl) (fun _ _ _ h => h) (Or.inl ⟨by rfl, fun w' hS => by go_simp⟩) (fun _ => trivial) trivial ?_
                    simp only [Act.put, setIfInBounds_toArray, set_cons_zero, set_cons_succ]
                    refine anyU_pure (i := 5) (v := .int .i64 (kx : Int)) rfl (by kernel_rfl) (fun _ _ _ h => h) (Or.inl ⟨by rfl, fun w' hS => by go_simp⟩) (fun _ => trivial) trivial ?_
                    simp only [Act.put, setIfInBounds_toArray, set_cons_zero, set_cons_succ]
                    refine anyU_pure (i := 6) (v := .int .i64 ((kx : Int) + 1)) rfl (by kernel_rfl) (fun _ _ _ h => h) (Or.inl ⟨by rfl, fun w' hS => by go_simp; exact IntWalk.i64_in _ (by omega)⟩) (fun _ => trivial) trivial ?_
                    simp only [Act.put, setIfInBounds_toArray, set_cons_zero, set_cons_succ]
                    refine anyU_pure (i := 7) (v := sv) rfl (by kernel_rfl) (fun _ _ _ h => h) (Or.inl ⟨by rfl, fun w' hS => by have hq := Hsv.out w'; go_simp⟩) (fun _ => trivial) trivial ?_
                    simp only [Act.put, setIfInBounds_toArray, set_cons_zero, set_cons_succ]
                    refine anyU_one (k := 3) (by kernel_rfl) rfl (fun K hK => ?_)
                    go_simp
                    refine (Hcl.out wd Hcd.out).mono ?_
                    rintro e wq ⟨vq, rfl, hoq, hcq⟩
                    have hq5 := (Hcw.out.trans Hcd.out).size
                    obtain ⟨v7, w7, hr7, ho7, hc7, _⟩ := run_append_docs wq 25 w5.heap.size vq sv (D2.take kx) (D2.drop (kx + 1)) _ (by unfold OwnD at hoq ⊢; exact ownsRow_base hoq hq5) (HsP.out.same (Hcd.out.trans hcq)) (by rw [List.length_take, List.length_drop]; omega) (Nat.le_trans hq5 hcq.size)
                    rw [← HD'.out] at ho7
                    obtain ⟨a7, c7, rfl⟩ := ownsRow_shape ho7
                    have H7 := Lib.hid (show OwnD w7 w5.heap.size (.slice a7 D'.length c7) D' ∧ Chg [] w5 w7 from ⟨ho7, ((Hcw.out.trans Hcd.out).trans hcq).comp hc7 fun g hg => Or.inr (Nat.le_trans hq5 (ownsRow_ge hoq (by simpa using hg)).1)⟩)
                    have Hr7 := Lib.hid hr7
                    clear hoq hcq hr7 ho7 hc7 hq5
                    refine hK _ _ (fun _ => trivial) trivial ?_
                    clear hK K
                    refine anyU_one (k := 8) (by kernel_rfl) rfl (fun K hK => ?_)
                    refine step_append_run rfl _ _ _ rfl _ _ _ _ rfl rfl Hr7.out ?_
                    refine hK _ _ (fun _ => trivial) trivial ?_
                    clear hK K
                    refine anyU_one (k := 9) (by kernel_rfl) rfl (fun K hK => ?_)
                    go_simp
                    refine hK _ _ (fun _ => trivial) trivial ?_
                    clear hK K
                    refine anyU_done (by kernel_rfl) ?_
                    go_wp2_with fail
                    exact ⟨⟨m2 + 1, D', a7, c7, by omega, by go_num, rfl, Lib.hid ⟨Hst.out, H7.out⟩⟩, by simp [intOf]; omega⟩
                  · as_aux_lemma =>
                    simp only [kOf]
                    have hst : runD D (pre ++ l.take (m2 + 1)) = D2.set kx (D2[kx].1, D2[kx].2.1, (⟨#[118, 101, 114, 115, 105, 111, 110, 32, 111, 102, 32]⟩ ++ dn)) := by
                     rw [Hrun.out, ← Htx.out]; unfold stepD; simp only [hio, if_neg hkd, hge]
                    obtain ⟨g2, cc, hv, hge2, hgl2⟩ := World.ownsRow.form hO4 (by omega)
                    simp only [Value.slice.injEq] at hv
                    obtain ⟨rfl, hnn, rfl⟩ := hv
                    clear hnn
                    obtain ⟨g', off', he, _, _, _, z2⟩ := hO4.read.cells kx hkx
                    cases he
                    rw [hge] at z2
                    rw [Nat.zero_add] at z2
                    obtain ⟨xo, hxo⟩ : ∃ x, D2[kx] = x := ⟨_, rfl⟩
                    rw [hxo] at z2 hst
                    have l2 := lt_of_cell z2
                    have f2 : wr.frozen? ⟨g2, kx * 3 + 2, none⟩ = false := by
                     rcases hO4.2 with ⟨hv, _⟩ | ⟨g', cap', cur', hv, _, hh, _⟩
                     · cases hv
                     · cases hv
                       exact frozen_of_heap hh
                    obtain ⟨w7, hw7⟩ : ∃ y, y = wr.setCell ⟨g2, kx * 3 + 2, none⟩ (.string (⟨#[118, 101, 114, 115, 105, 111, 110, 32, 111, 102, 32]⟩ ++ dn)) := ⟨_, rfl⟩
                    have ho7 : OwnD w7 w5.heap.size (.slice (some ⟨g2, 0, none⟩) D2.length c2) (D2.set kx (xo.1, xo.2.1, (⟨#[118, 101, 114, 115, 105, 111, 110, 32, 111, 102, 32]⟩ ++ dn))) := by
                     have := hO4.set1 rfl kx hkx (⟨#[118, 101, 114, 115, 105, 111, 110, 32, 111, 102, 32]⟩ ++ dn)
                     rw [hxo] at this
                     rw [hw7]
                     exact this
                    have hc7 : Chg [g2] wr w7 := by rw [hw7]; exact (Chg.refl [g2] wr).setCell (p := ⟨g2, kx * 3 + 2, none⟩) (Or.inl (by simp)) _
                    have H7 := Lib.hid (And.intro hst (And.intro ho7 (Hcw.out.comp hc7 fun g hg => Or.inr (by rw [List.mem_singleton.1 hg]; exact hge2))))
                    have HW7 := Lib.hid hw7
                    have hls : (D2.set kx (xo.1, xo.2.1, (⟨#[118, 101, 114, 115, 105, 111, 110, 32, 111, 102, 32]⟩ ++ dn))).length = D2.length := by simp
                    have Hls := Lib.hid hls
                    clear hst hO4 hge hxo hw7 ho7 hc7 hio hls hkn
                    go_wp2_with fail
                    all_goals
                     rw [← HW7.out]
                     exact ⟨⟨m2 + 1, _, _, c2, by omega, by go_num, by rw [Hls.out], Lib.hid ⟨H7.out.1.symm, by rw [Hls.out]; exact H7.out.2.1, H7.out.2.2⟩⟩, by simp [intOf]; omega⟩
           · have hm3 : ¬ ((m2 : Int) < l.length) := by omega
             obtain rfl : m2 = l.length := by omega
             go_wp2_with fail
             exact ⟨⟨i + 1, D2, a2, c2, by omega, by go_num, rfl, Lib.hid ⟨by have := HR2.out.1; rw [List.take_length, ← Hft.out.1] at this; exact this, HR2.out.2⟩⟩, by simp [intOf]; omega⟩
        · as_aux_lemma =>
          have hi1 : ¬ ((i : Int) < BL.length) := by omega
          obtain rfl : i = BL.length := by omega
          have hD1 := HR1.out.1
          rw [List.take_length] at hD1
          have hri : (nms D1).Nodup ∧ DcOk D1 ∧ D1.length ≤ 6 ∧ ∀ d ∈ D1, d.1 ∈ sixN ∧ d.2.2.size ≤ 200 := by
           have h := Hre.out _ [] (List.append_nil _).symm
           rw [hD1]
           exact ⟨h.nd, h.ok, h.len, h.each⟩
          have hnl := Hnl.out
          rw [← hD1] at hnl
          have Hri := Lib.hid hri
          have Hnl1 := Lib.hid hnl
          have hD1l := hri.2.2.1
          obtain ⟨w7, hw7⟩ : ∃ y, y = wr := ⟨_, rfl⟩
          subst hw7
          have HR7 := Lib.hid HR1.out.2
          have HP7 : Hid (DcP (fun g => g < w7.heap.size) w7 (.slice a23 D1.length c23) D1 ∧ DcP (fun g => g < w4.heap.size) w7 (.slice a9 k c9) D) := Lib.hid ⟨DcP.imp HR7.out.1.read fun g hg => hg.2.1, HD5.out.1.same HR7.out.2⟩
          have HDk : Hid (D.length = k) := HDl
          have hk10 : D.length ≤ 4 := by rw [HDk.out]; exact hm4
          clear hD1 hri hnl HR1
          go_wp2_with fail
          go_loopw [209] (fun iv wr => ∃ i1 : Nat, i1 ≤ D1.length ∧ iv = .int .i64 (i1 : Nat) ∧ Hid (NoCol D (D1.take i1) ∧ Chg [] w7 wr)) (fun iv _ => D1.length - (intOf iv).toNat)
          case atStart => exact ⟨0, by omega, rfl, Lib.hid ⟨fun d hd => by simp at hd, Chg.refl _ _⟩⟩
          case round =>
           obtain ⟨i1, hi2, rfl, HN⟩ := hrel
           by_cases hl1 : i1 < D1.length
           · as_aux_lemma =>
             have hl2 : (i1 : Int) < D1.length := by omega
             obtain ⟨w8, hw8⟩ : ∃ y, y = wr := ⟨_, rfl⟩
             subst hw8
             obtain ⟨x, hx⟩ : ∃ x, D1[i1] = x := ⟨_, rfl⟩
             have Hx := Lib.hid hx
             have hgx : D1.getD i1 dc0 = x := by rw [List.getD_eq_getElem?_getD, List.getElem?_eq_getElem hl1, ← hx]; rfl
             obtain ⟨gx, ox, hex, _, x0, _, x2⟩ := HP7.out.1.cells i1 hl1
             subst hex
             rw [hgx] at x0 x2
             obtain ⟨xn, xv, xt⟩ := x
             simp only at x0 x2
             have hxs : xt.size ≤ 200 := (Hri.out.2.2.2 (xn, xv, xt) (by rw [← hx]; exact List.getElem_mem hl1)).2
             have Hx02 := Lib.hid (And.intro x0 x2)
             have Hckx := Lib.hid (fun W => checksum_same xt W (by omega))
             have Hxs := Lib.hid hxs
             clear hx hgx x0 x2 hxs
             go_wp2_with fail
             go_loopw [214] (fun kv wr => ∃ k1 : Nat, k1 ≤ k ∧ kv = .int .i64 (k1 : Nat) ∧ Hid ((∀ d0 ∈ D.take k1, xn = d0.1 → ck d0.2.2.data.toList = ck xt.data.toList → xt = d0.2.2) ∧ Chg [] w8 wr)) (fun kv _ => k - (intOf kv).toNat)
             case atStart => exact ⟨0, by omega, rfl, Lib.hid ⟨fun d hd => by simp at hd, Chg.refl _ _⟩⟩
             case round =>
              obtain ⟨k1, hk1, rfl, HK⟩ := hrel
              by_cases hl3 : k1 < k
              · skip
                have hl4 : (k1 : Int) < (k : Int) := by omega
                have hl5 : k1 < D.length := by rw [HDk.out]; exact hl3
                have hcx := HN.out.2.trans HK.out.2
                obtain ⟨gy, oy, hey, _, y0, _, y2⟩ := (HP7.out.2.same hcx).cells k1 hl5
                subst hey
                have hgy : D.getD k1 dc0 = D[k1] := by rw [List.getD_eq_getElem?_getD, List.getElem?_eq_getElem hl5]; rfl
                have htk : D.take (k1 + 1) = D.take k1 ++ [D[k1]] := by rw [List.take_add_one, List.getElem?_eq_getElem hl5]; rfl
                obtain ⟨y, hy⟩ : ∃ y, D[k1] = y := ⟨_, rfl⟩
                have hys : y.2.2.size ≤ 200 := (HDz.out y (by rw [← hy]; exact List.getElem_mem hl5)).2
                rw [hgy, hy] at y0 y2
                rw [hy] at htk
                obtain ⟨yn, yv, yt⟩ := y
                simp only at y0 y2 hys
                have x0 := (hcx.cell (lt_of_cell Hx02.out.1) (by simp)).trans Hx02.out.1
                have x2 := (hcx.cell (lt_of_cell Hx02.out.2) (by simp)).trans Hx02.out.2
                have Hcky := Lib.hid (fun W => checksum_same yt W (by omega))
                have Hnext : Hid (∀ W, Chg [] wr W → (xn = yn → ck yt.data.toList = ck xt.data.toList → xt = yt) → (∀ d0 ∈ D.take (k1 + 1), xn = d0.1 → ck d0.2.2.data.toList = ck xt.data.toList → xt = d0.2.2) ∧ Chg [] w8 W) := Lib.hid fun W hW h => ⟨fun d0 hd => by
                 rw [htk] at hd
                 rcases List.mem_append.1 hd with hd | hd
                 · exact HK.out.1 d0 hd
                 · rw [List.mem_singleton.1 hd]; exact h, HK.out.2.trans hW⟩
                have lx0 := lt_of_cell x0
                have lx2 := lt_of_cell x2
                have ly0 := lt_of_cell y0
                have ly2 := lt_of_cell y2
                have Hcx := Lib.hid hcx
                clear hgy htk hy hys hcx
                go_upto_region 56 with (fail)
                by_cases hxn : xn = yn
                · subst hxn
                  by_cases hxt : xt = yt
                  · as_aux_lemma =>
                    subst hxt
                    refine wp_region_readsQ 36 (by kernel_rfl) (by kernel_rfl) ?_
                    intro wd hwd
                    simp only [List.take_succ_cons, List.take_zero, List.drop_succ_cons, List.drop_zero]
                    have hcd : Chg [] wr wd := by rw [hwd]; exact (Chg.refl _ _).drew
                    have r0 := (hcd.cell lx0 (by simp)).trans x0
                    have r2 := (hcd.cell lx2 (by simp)).trans x2
                    have s0 := (hcd.cell ly0 (by simp)).trans y0
                    have s2 := (hcd.cell ly2 (by simp)).trans y2
                    have Hcd := Lib.hid hcd
                    clear hcd hwd x0 x2 y0 y2 lx0 lx2 ly0 ly2
                    repeat go_big_quiet_step (fail)
                    refine wpQuiet_nil ?_
                    go_wp2_with fail
                    exact ⟨⟨k1 + 1, by omega, by go_num, Lib.hid (Hnext.out _ Hcd.out fun _ _ => rfl)⟩, by simp [intOf]; omega⟩
                  · as_aux_lemma =>
                    have hxb := str_ne hxt
                    obtain ⟨z1, hz1⟩ : ∃ z, z = ck xt.data.toList := ⟨_, rfl⟩
                    obtain ⟨z2, hz2⟩ : ∃ z, z = ck yt.data.toList := ⟨_, rfl⟩
                    rw [← hz1] at Hckx
                    rw [← hz2] at Hcky
                    have Hz := Lib.hid (And.intro hz1 hz2)
                    clear hz1 hz2
                    by_cases hz : z1 = z2
                    · subst hz
                      refine wp_region_readsQ 36 (by kernel_rfl) (by kernel_rfl) ?_
                      intro wd hwd
                      simp only [List.take_succ_cons, List.take_zero, List.drop_succ_cons, List.drop_zero]
                      have hcd : Chg [] wr wd := by rw [hwd]; exact (Chg.refl _ _).drew
                      have r0 := (hcd.cell lx0 (by simp)).trans x0
                      have r2 := (hcd.cell lx2 (by simp)).trans x2
                      have s0 := (hcd.cell ly0 (by simp)).trans y0
                      have s2 := (hcd.cell ly2 (by simp)).trans y2
                      have Hcd := Lib.hid hcd
                      clear hcd hwd x0 x2 y0 y2 lx0 lx2 ly0 ly2
                      iterate 30 go_big_quiet_step (fail)
                      go_big_quiet_want
                      go_big_quiet_op
                      refine ⟨_, Hckx.out _, ?_⟩
                      go_big_quiet_on
                      repeat go_big_quiet_step (fail)
                      refine wpQuiet_nil ?_
                      go_wp2_with fail
                      refine (Hcky.out _).mono ?_
                      rintro e wX ⟨rfl, hX⟩
                      rw [hX]
                      clear hX
                      have Hw := Lib.hid ((Hch4.out.trans (H5.out.trans HR7.out.2)).trans (Hcx.out.trans Hcd.out))
                      go_wp2_with fail
                      refine (Jv.packEx_any _ (HT.out.new Hw.out)).mono ?_
                      rintro e w9 ⟨rfl, hc9⟩
                      have H9 := Lib.hid (Hw.out.trans hc9)
                      clear hc9
                      go_wp2_with fail
                      go_ret
                      exact ⟨rfl, H9.out⟩
                    · have hz0 : ¬ ((z1 : Int) = (z2 : Int)) := by omega
                      have hz3 : ((z1 : Int) == (z2 : Int)) = false := by simpa using hz0
                      refine wp_region_readsQ 36 (by kernel_rfl) (by kernel_rfl) ?_
                      intro wd hwd
                      simp only [List.take_succ_cons, List.take_zero, List.drop_succ_cons, List.drop_zero]
                      have hcd : Chg [] wr wd := by rw [hwd]; exact (Chg.refl _ _).drew
                      have r0 := (hcd.cell lx0 (by simp)).trans x0
                      have r2 := (hcd.cell lx2 (by simp)).trans x2
                      have s0 := (hcd.cell ly0 (by simp)).trans y0
                      have s2 := (hcd.cell ly2 (by simp)).trans y2
                      have Hcd := Lib.hid hcd
                      clear hcd hwd x0 x2 y0 y2 lx0 lx2 ly0 ly2
                      iterate 30 go_big_quiet_step (fail)
                      go_big_quiet_want
                      go_big_quiet_op
                      refine ⟨_, Hckx.out _, ?_⟩
                      go_big_quiet_on
                      repeat go_big_quiet_step (fail)
                      refine wpQuiet_nil ?_
                      go_wp2_with fail
                      refine (Hcky.out _).mono ?_
                      rintro e wX ⟨rfl, hX⟩
                      rw [hX]
                      clear hX
                      go_wp2_with fail
                      exact ⟨⟨k1 + 1, by omega, by go_num, Lib.hid (Hnext.out _ Hcd.out fun _ h => absurd (Hz.out.1.trans (h.symm.trans Hz.out.2.symm)) hz)⟩, by simp [intOf]; omega⟩
                · as_aux_lemma =>
                  have hxb := str_ne hxn
                  refine wp_region_readsQ 36 (by kernel_rfl) (by kernel_rfl) ?_
                  intro wd hwd
                  simp only [List.take_succ_cons, List.take_zero, List.drop_succ_cons, List.drop_zero]
                  have hcd : Chg [] wr wd := by rw [hwd]; exact (Chg.refl _ _).drew
                  have r0 := (hcd.cell lx0 (by simp)).trans x0
                  have s0 := (hcd.cell ly0 (by simp)).trans y0
                  have Hcd := Lib.hid hcd
                  clear hcd hwd x0 x2 y0 y2 lx0 lx2 ly0 ly2
                  repeat go_big_quiet_step (fail)
                  refine wpQuiet_nil ?_
                  go_wp2_with fail
                  exact ⟨⟨k1 + 1, by omega, by go_num, Lib.hid (Hnext.out _ Hcd.out fun h => absurd h hxn)⟩, by simp [intOf]; omega⟩
              · have hl4 : ¬ ((k1 : Int) < (k : Int)) := by omega
                obtain rfl : k1 = k := by omega
                go_wp2_with fail
                exact ⟨⟨i1 + 1, by omega, by go_num, Lib.hid ⟨fun d hd d0 hd0 => by
                 rw [List.take_add_one, List.getElem?_eq_getElem hl1, Hx.out] at hd
                 rcases List.mem_append.1 hd with hd | hd
                 · exact HN.out.1 d hd d0 hd0
                 · have hd : d = (xn, xv, xt) := by simpa using hd
                   rw [hd]
                   exact HK.out.1 d0 (by rw [← HDk.out, List.take_length]; exact hd0), HN.out.2.trans HK.out.2⟩⟩, by simp [intOf]; omega⟩
           · as_aux_lemma =>
             have hl2 : ¬ ((i1 : Int) < D1.length) := by omega
             obtain rfl : i1 = D1.length := by omega
             have HNC : Hid (NoCol D D1) := Lib.hid (by have := HN.out.1; rw [List.take_length] at this; exact this)
             obtain ⟨w8, hw8⟩ : ∃ y, y = wr := ⟨_, rfl⟩
             subst hw8
             have HP8 := Lib.hid (And.intro (HP7.out.1.same HN.out.2) (HP7.out.2.same HN.out.2))
             have H8 := Lib.hid (HR7.out.2.trans HN.out.2)
             clear HN
             go_wp2_with fail
             go_loopw [32, 261] (fun v jv wr => ∃ (j1 : Nat) (a : Option Addr) (c : Nat), j1 ≤ D1.length ∧ jv = .int .i64 (j1 : Nat) ∧ v = .slice a j1 c ∧ Hid (OwnS wr w8.heap.size (.slice a j1 c) (nms (D1.take j1)) ∧ Chg [] w8 wr)) (fun _ jv _ => D1.length - (intOf jv).toNat)
             case atStart => exact ⟨0, none, 0, by omega, rfl, rfl, Lib.hid ⟨OwnS.nil _ _, Chg.refl _ _⟩⟩
             case round =>
              obtain ⟨j1, a32, c32, hj1, rfl, rfl, HS⟩ := hrel
              by_cases hl3 : j1 < D1.length
              · as_aux_lemma =>
                have hl4 : (j1 : Int) < D1.length := by omega
                obtain ⟨gx, ox, hex, _, x0, _, _⟩ := (HP8.out.1.same HS.out.2).cells j1 hl3
                subst hex
                have hgx : D1.getD j1 dc0 = D1[j1] := by rw [List.getD_eq_getElem?_getD, List.getElem?_eq_getElem hl3]; rfl
                rw [hgx] at x0
                have hne2 : nms (D1.take j1) ++ [D1[j1].1] = nms (D1.take (j1 + 1)) := by
                 rw [List.take_add_one, List.getElem?_eq_getElem hl3]
                 unfold nms
                 rw [List.map_append]
                 rfl
                have hnl : (nms (D1.take j1)).length = j1 := by unfold nms; rw [List.length_map, List.length_take]; omega
                have hnl1 : (nms (D1.take (j1 + 1))).length = j1 + 1 := by unfold nms; rw [List.length_map, List.length_take]; omega
                obtain ⟨xn, hxn⟩ : ∃ x, D1[j1].1 = x := ⟨_, rfl⟩
                rw [hxn] at x0 hne2
                have lx := lt_of_cell x0
                obtain ⟨w9, hw9⟩ : ∃ q, q = wr.alloc (.cells #[.string xn] 9) := ⟨_, rfl⟩
                obtain ⟨n9, hn9⟩ : ∃ q, q = wr.heap.size := ⟨_, rfl⟩
                have hc9 : Chg [] wr w9 := by rw [hw9]; exact (Chg.refl [] _).alloc _
                have hb9 : w9.heap[n9]? = some (.cells #[.string xn] 9 (0, 0)) := by rw [hw9, hn9]; exact heap_at _ _ _ rfl
                obtain ⟨v10, w10, hr10, ho10, hc10, _⟩ := run_append_nm w9 22 w8.heap.size _ (nms (D1.take j1)) xn n9 (OwnS.same HS.out.1 hc9) hb9 (by omega) (HS.out.2.trans hc9).size
                rw [hne2] at ho10
                obtain ⟨a10', c10', rfl⟩ := ownsRow_shape ho10
                rw [hnl1] at hr10 ho10
                have H10 := Lib.hid (And.intro ho10 ((HS.out.2.trans hc9).comp hc10 fun g hg => Or.inr (ownsRow_ge HS.out.1 (by simpa using hg)).1))
                have Hr10 := Lib.hid hr10
                have HW9 := Lib.hid (And.intro hw9 hn9)
                clear hgx hne2 hnl hnl1 hxn hw9 hn9 hc9 hb9 hr10 ho10 hc10
                go_wp2_with (at_builtin; rw [← HW9.out.1, ← HW9.out.2]; refine wpList_append_run rfl _ _ _ rfl _ _ _ _ rfl rfl Hr10.out ?_)
                exact ⟨⟨j1 + 1, a10', c10', by omega, by go_num, rfl, H10⟩, by simp [intOf]; omega⟩
              · as_aux_lemma =>
                have hl4 : ¬ ((j1 : Int) < D1.length) := by omega
                obtain rfl : j1 = D1.length := by omega
                have hS9 := HS.out.1
                rw [List.take_length] at hS9
                obtain ⟨w9, hw9⟩ : ∃ y, y = wr := ⟨_, rfl⟩
                subst hw9
                have HS9 := Lib.hid hS9
                have HP9 := Lib.hid (And.intro (HP8.out.1.same HS.out.2) (HP8.out.2.same HS.out.2))
                have H59 := Lib.hid (H8.out.trans HS.out.2)
                have H9 := Lib.hid (Hch4.out.trans (H5.out.trans H59.out))
                clear hS9 HS
                obtain ⟨_, hq0, hq1⟩ : True ∧ 0 ≤ modI xc ((L.size : Int) + 1) ∧ modI xc ((L.size : Int) + 1) < (L.size : Int) + 1 := ⟨trivial, modI_bd xc _ (by omega)⟩
                obtain ⟨cu, hcu⟩ : ∃ c : Nat, modI xc ((L.size : Int) + 1) = (c : Int) := ⟨(modI xc ((L.size : Int) + 1)).toNat, by omega⟩
                have hcl : cu ≤ L.size := by omega
                have Hmod2 := Lib.hid (fun W => mod_any xc ((L.size : Int) + 1) W (by omega) (by omega))
                rw [hcu] at Hmod2
                obtain ⟨mm, hm1, hm2, _⟩ := cut_log HDok.out L HL.out cu hcl
                have Hex := Lib.hid (show (L.extract 0 cu).size = min cu L.size - 0 from ByteArray.size_extract)
                have hci : (cu : Int) ≤ L.size := by omega
                have hc0 : (0 : Int) ≤ (cu : Int) := by omega
                have hML : ML w9 := by obtain ⟨m0, hm0⟩ := (HT.out.new H9.out).ml; exact ⟨m0, hm0⟩
                have Hrs := Lib.hid (restore_any _ w9 _ D1 (D.take mm) (L.extract 0 cu) HP9.out.1 Hri.out.2.1 hML (by rw [Hex.out]; omega) hm2 (take_nodup HDn.out mm) (by rw [List.length_take]; omega) (fun d hd => (HDok.out.ok d (List.mem_of_mem_take hd)).2))
                have Heff := Lib.hid (eff_nocol HNC.out (fun x hx => List.mem_of_mem_take hx) (take_nodup HDn.out mm))
                clear hcu hq0 hq1 hm1 hm2 hML
                go_wp2_with fail
                refine (Hmod2.out _).mono ?_
                rintro e wX ⟨rfl, hX⟩
                rw [← hX]
                clear hX
                go_wp2_with fail
                refine Hrs.out.mono ?_
                rintro e w10 ⟨u10, sv, K, S, rfl, hK, hx10, hs10, _, hc10⟩
                have H10 := Lib.hid (And.intro hK (And.intro hx10 hc10))
                obtain ⟨as10, cs10, rfl, _, _⟩ := hs10.shape
                clear hK hx10 hs10 hc10
                go_wp2_with fail
                refine (build_any _ w10 _ D1 (HP9.out.1.same H10.out.2.2) Hri.out.2.1).mono ?_
                rintro e w11 ⟨u11, K2, rfl, hK2, hx11, hc11⟩
                have hKK : K = K2 := by
                 have h1 := H10.out.1
                 rw [Heff.out] at h1
                 exact h1.unique hK2
                have H11 := Lib.hid (And.intro hKK (And.intro hx11 (H10.out.2.2.trans hc11)))
                have Hu10 := Lib.hid (H10.out.2.1.same hc11)
                clear hK2 hx11 hc11 hKK
                go_wp2_with fail
                refine (Jv.packEx_any _ (HT.out.new (H9.out.trans H11.out.2.2))).mono ?_
                rintro e w12 ⟨rfl, hc12⟩
                have hu12 := H11.out.2.1.same hc12
                rw [← H11.out.1] at hu12
                have Heq := Lib.hid (eqIx_any _ _ _ _ w12 _ _ K (Hu10.out.same hc12) hu12)
                have H12 := Lib.hid (H11.out.2.2.trans hc12)
                clear hc12 hu12
                go_wp2_with fail
                refine Heq.out.mono ?_
                rintro e w13 ⟨rfl, hc13⟩
                have H13 := Lib.hid (H12.out.trans hc13)
                clear hc13
                have Hss := Lib.hid (sortStrings_any _ w13 _ (nms D1) ((OwnS.same HS9.out H13.out).strs) Hnl1.out.1 (by unfold nms; rw [List.length_map]; omega))
                go_wp2_with fail
                refine Hss.out.mono ?_
                rintro e w14 ⟨v14, rfl, hs14, hc14⟩
                obtain ⟨a14, c14, rfl, _, _⟩ := hs14.shape
                have H14 := Lib.hid (And.intro hs14 (H13.out.trans hc14))
                clear hs14 hc14
                have Hap := Lib.hid (F.apply_any _ _ w14 _ _ (nms D) E (HD5.out.2.same (H59.out.trans H14.out.2)) (HEv5.out.same (H59.out.trans H14.out.2)).evs (fun x hx => by
                 obtain ⟨d, hd, rfl⟩ := List.mem_map.1 hx
                 rw [sixN_size (HDz.out d hd).1]; decide) (fun e he => HI5.out.tim.path e he) (by unfold nms; rw [List.length_map]; omega) (by omega))
                go_wp2_with fail
                refine Hap.out.mono ?_
                rintro e w15 ⟨v15, rfl, hs15, hc15⟩
                obtain ⟨a15, c15, rfl, _, _⟩ := hs15.shape
                have hs15' : StrsP (fun _ => True) w15 (.slice a15 (F.apL (nms D) E).length c15) (srt (nms D1)) := by rw [Hnl1.out.2]; exact hs15
                have Hes := Lib.hid (eqStrs_any _ _ w15 _ _ _ (H14.out.1.same hc15) hs15')
                have H15 := Lib.hid (H14.out.2.trans hc15)
                clear hs15 hs15' hc15
                go_wp2_with fail
                refine Hes.out.mono ?_
                rintro e w16 ⟨rfl, hc16⟩
                have H16 := Lib.hid ((H9.out.trans H15.out).trans hc16)
                clear hc16
                go_wp2_with fail
                go_ret
                exact ⟨rfl, H16.out⟩
end Go.Proofs.YtjlknaahpjiibaaGreatDoor
