/- Part of the proof of topCrashedLaw_holds. -/
import Derived.RangeFuncNested
import Derived.RangeFuncBox
import Derived.RangeFuncBound
import Derived.RangeFuncCalls
import Derived.RangeFuncLeaves
import Derived.RangeFuncGives
import Derived.Shelf.Abstract
import Derived.Shelf.RegionOpen
import Derived.OwnWalkIn
import Derived.TacticsInMore
import Derived.LoopNIn
import Derived.LoopIn
import Derived.BigRegionIn
import Derived.Sort.Statements
import Derived.Test.YtjlknaahpjiibaaGreatDoorProg
import Derived.Test.YtjlknaahpjiibaaGreatDoorQaa
import Derived.Test.YtjlknaahpjiibaaGreatDoorQab
namespace Go.Proofs.YtjlknaahpjiibaaGreatDoor.F
open List (getElem_toArray getElem_cons_zero getElem_cons_succ setIfInBounds_toArray set_cons_zero set_cons_succ)
open Go.RowKit Go.ChangeMaps Go.MapKept Go.Shelf
set_option linter.unusedVariables false
set_option linter.unusedSimpArgs false
attribute [local go_sem] Oper.semAt_some
def sk (s : ByteArray) : Value := .string s
theorem skInj (x y : ByteArray) (h : sk x = sk y) : x = y := by unfold sk at h; simpa using h
theorem _root_.Go.Proofs.YtjlknaahpjiibaaGreatDoor.RangeAt.keepsW {P : Program} {K : Type} {kt : TypeId} {ek : K → Value} {w w' : World} {b r : Nat} {es rest : List (K × Value)} (h : RangeAt P kt ek w b r es rest) (hk : KeepsWalks w w') : RangeAt P kt ek w' b r es rest := by
 obtain ⟨arr, clock, since, seen, c0, h1, h2, h3, h4, h5, h6⟩ := h
 exact ⟨arr, clock, since, seen, c0, hk.same b _ h1 rfl, h2, h3, h4, hk.same r _ h5 rfl, h6⟩
theorem _root_.Go.Proofs.YtjlknaahpjiibaaGreatDoor.RangeAt.iter {P : Program} {K : Type} {kt : TypeId} {ek : K → Value} {w : World} {b r : Nat} {es rest : List (K × Value)} (h : RangeAt P kt ek w b r es rest) : ∃ o : Obj, w.heap[r]? = some o ∧ o.isWalk = true := by
 obtain ⟨arr, clock, since, seen, c0, h1, h2, h3, h4, h5, h6⟩ := h
 exact ⟨_, h5, rfl⟩
theorem _root_.Go.Proofs.YtjlknaahpjiibaaGreatDoor.Chg.grownBy1 {r : Nat} {w w' : World} (h : Chg [r] w w') : w.grownBy w' (some r) :=
 ⟨h.os, h.tape, h.output, h.size, fun k hk hn => h.block k hk (by simp only [List.mem_singleton]; intro e; exact hn (by rw [e]))⟩
set_option maxRecDepth 100000 in
set_option maxHeartbeats 2000000 in
theorem keysI_in (n l Bm b : Nat) (es : List (ByteArray × Value)) (J Jx : List ByteArray → World → Prop)
 (hY : ∀ pre x W, J pre W → pre.length < es.length → YieldAt Fence.wide n Tryz.prog l #[sk x] W fun e W' => (e = .returned (.bool true) ∧ J (pre ++ [x]) W' ∧ KeepsWalks W W') ∨ (e = .returned (.bool false) ∧ Jx (pre ++ [x]) W'))
 (W : World) (hJ : AbidesFrom W.heap.size J) (hm : W.cell? ⟨Bm, 0, none⟩ = some (.map (some b))) (hmap : MapAt Tryz.prog 9 sk W b es) (h0 : J [] W) :
 CallsIn Fence.wide (n + 1) Tryz.prog 72 #[.func (.yield l) #[] #[], .pointer (some ⟨Bm, 0, none⟩)] W fun e W' => (∃ v, e = .returned v) ∧ ((∃ ks : List ByteArray, ks.Perm (es.map (·.1)) ∧ J ks W') ∨ ∃ pre, True ∧ Jx pre W') := by
 obtain ⟨o, hrun, hrg⟩ := hmap.range Tryz.underlying79
 have hJ0 := hJ [] W (W.alloc o) none h0 (World.grownBy_alloc W o none) (fun r e => by cases e)
 have HJ := Lib.hid hJ
 have HY := Lib.hid hY
 clear hJ hY h0 hmap
 refine callsIn_of_wp Tryz.func72 rfl trivial ?_ rfl
 simp only [Tryz.ntmps72, List.size_toArray, List.length_cons, List.length_nil, Nat.reduceAdd, Nat.reduceSub, Array.replicate_succ, Array.replicate_zero, List.push_toArray, List.append_toArray, List.nil_append, List.cons_append]
 gi_wp2
 gi_loopw [3] (fun _ wr => ∃ (ks : List ByteArray) (rest : List (ByteArray × Value)), RangeAt Tryz.prog 9 sk wr b W.heap.size es rest ∧ (ks ++ rest.map (·.1)).Perm (es.map (·.1)) ∧ J ks wr) (fun _ wr => wr.rangeLeft b W.heap.size)
 case atStart => exact ⟨[], es, hrg, List.Perm.refl _, hJ0⟩
 case round =>
  obtain ⟨ks, rest, hr, hp, hJk⟩ := hrel
  clear hrun hrg hJ0 hm
  rcases hr.next 0 with ⟨rfl, hn⟩ | ⟨k1, v, rest', w2, hperm, hn, hr2, hc2, hz2, hcell2, hfr2, hen⟩
  · gi_wp2
    go_end0
    exact ⟨⟨_, rfl⟩, Or.inl ⟨ks, by simpa using hp, hJk⟩⟩
  · have hJ2 := HJ.out ks wr w2 (some W.heap.size) hJk hc2.grownBy1 (fun r e => by cases e; exact ⟨Nat.le_refl _, hr.iter⟩)
    have hlen : ks.length < es.length := by
     have h1 := hp.length_eq
     have h2 := hperm.length_eq
     simp only [List.length_append, List.length_map, List.length_cons] at h1 h2
     omega
    obtain ⟨fn, tmps, assign, body, hy, hR⟩ := HY.out ks k1 _ hJ2 hlen
    have hrc := hr2
    have Hr := Lib.hid hrc
    have Hre := Lib.hid hr
    have Hp := Lib.hid (show (ks ++ [k1] ++ rest'.map (·.1)).Perm (es.map (·.1)) by
     have h1 := hperm.map (·.1)
     simp only [List.map_cons] at h1
     have h2 : (ks ++ [k1] ++ rest'.map (·.1)).Perm (ks ++ rest.map (·.1)) := by
      rw [List.append_assoc]
      exact List.Perm.append_left ks h1.symm
     exact h2.trans hp)
    have Hpl := Lib.hid (show rest'.length < rest.length by have h2 := hperm.length_eq; simp only [List.length_cons] at h2; omega)
    unfold sk at hn hen
    unfold sk at hy
    clear hJk hJ2 hr hr2 hp hperm hc2 hrc
    gi_wp2
    refine hR.mono ?_
    rintro e W3 (⟨rfl, hJ4, hk4⟩ | ⟨rfl, hJ4⟩)
    · gi_wp2
      have hrg3 := Hr.out.keepsW hk4
      go_roundw
      case rel => exact ⟨ks ++ [k1], rest', hrg3, Hp.out, hJ4⟩
      case measure => rw [hrg3.left_eq, Hre.out.left_eq]; exact Hpl.out
    · gi_wp2
      refine bodyPost_ret (results_none rfl _ _ _) rfl ?_
      exact ⟨⟨_, rfl⟩, Or.inr ⟨_, trivial, hJ4⟩⟩
theorem keysI_stops (n Bm b : Nat) (es : List (ByteArray × Value)) (w : World) (hBm : Bm < w.heap.size) (hm : w.cell? ⟨Bm, 0, none⟩ = some (.map (some b))) (hmap : MapAt Tryz.prog 9 sk w b es) :
 SeqStopsK Fence.wide (n + 1) Tryz.prog 72 #[.pointer (some ⟨Bm, 0, none⟩)] (fun x : ByteArray => #[sk x]) KeepsWalks (fun ks => ks.Perm (es.map (·.1))) (fun _ => True) es.length w :=
 fun l J Jx W hW hJ _ hY h0 => keysI_in n l Bm b es J Jx hY W hJ ((hW.cell (p := ⟨Bm, 0, none⟩) hBm).trans hm) (hmap.of_block (hW.block b hmap.lt)) h0
set_option maxRecDepth 100000 in
set_option maxHeartbeats 2000000 in
theorem keysE_in (n l Bm b : Nat) (es : List (ByteArray × Value)) (J Jx : List ByteArray → World → Prop)
 (hY : ∀ pre x W, J pre W → pre.length < es.length → YieldAt Fence.wide n Tryz.prog l #[sk x] W fun e W' => (e = .returned (.bool true) ∧ J (pre ++ [x]) W' ∧ KeepsWalks W W') ∨ (e = .returned (.bool false) ∧ Jx (pre ++ [x]) W'))
 (W : World) (hJ : AbidesFrom W.heap.size J) (hm : W.cell? ⟨Bm, 0, none⟩ = some (.map (some b))) (hmap : MapAt Tryz.prog 9 sk W b es) (h0 : J [] W) :
 CallsIn Fence.wide (n + 1) Tryz.prog 104 #[.func (.yield l) #[] #[], .pointer (some ⟨Bm, 0, none⟩)] W fun e W' => (∃ v, e = .returned v) ∧ ((∃ ks : List ByteArray, ks.Perm (es.map (·.1)) ∧ J ks W') ∨ ∃ pre, True ∧ Jx pre W') := by
 obtain ⟨o, hrun, hrg⟩ := hmap.range Tryz.underlying122
 have hJ0 := hJ [] W (W.alloc o) none h0 (World.grownBy_alloc W o none) (fun r e => by cases e)
 have HJ := Lib.hid hJ
 have HY := Lib.hid hY
 clear hJ hY h0 hmap
 refine callsIn_of_wp Tryz.func104 rfl trivial ?_ rfl
 simp only [Tryz.ntmps104, List.size_toArray, List.length_cons, List.length_nil, Nat.reduceAdd, Nat.reduceSub, Array.replicate_succ, Array.replicate_zero, List.push_toArray, List.append_toArray, List.nil_append, List.cons_append]
 gi_wp2
 gi_loopw [3] (fun _ wr => ∃ (ks : List ByteArray) (rest : List (ByteArray × Value)), RangeAt Tryz.prog 9 sk wr b W.heap.size es rest ∧ (ks ++ rest.map (·.1)).Perm (es.map (·.1)) ∧ J ks wr) (fun _ wr => wr.rangeLeft b W.heap.size)
 case atStart => exact ⟨[], es, hrg, List.Perm.refl _, hJ0⟩
 case round =>
  obtain ⟨ks, rest, hr, hp, hJk⟩ := hrel
  clear hrun hrg hJ0 hm
  rcases hr.next 0 with ⟨rfl, hn⟩ | ⟨k1, v, rest', w2, hperm, hn, hr2, hc2, hz2, hcell2, hfr2, hen⟩
  · gi_wp2
    go_end0
    exact ⟨⟨_, rfl⟩, Or.inl ⟨ks, by simpa using hp, hJk⟩⟩
  · have hJ2 := HJ.out ks wr w2 (some W.heap.size) hJk hc2.grownBy1 (fun r e => by cases e; exact ⟨Nat.le_refl _, hr.iter⟩)
    have hlen : ks.length < es.length := by
     have h1 := hp.length_eq
     have h2 := hperm.length_eq
     simp only [List.length_append, List.length_map, List.length_cons] at h1 h2
     omega
    obtain ⟨fn, tmps, assign, body, hy, hR⟩ := HY.out ks k1 _ hJ2 hlen
    have hrc := hr2
    have Hr := Lib.hid hrc
    have Hre := Lib.hid hr
    have Hp := Lib.hid (show (ks ++ [k1] ++ rest'.map (·.1)).Perm (es.map (·.1)) by
     have h1 := hperm.map (·.1)
     simp only [List.map_cons] at h1
     have h2 : (ks ++ [k1] ++ rest'.map (·.1)).Perm (ks ++ rest.map (·.1)) := by
      rw [List.append_assoc]
      exact List.Perm.append_left ks h1.symm
     exact h2.trans hp)
    have Hpl := Lib.hid (show rest'.length < rest.length by have h2 := hperm.length_eq; simp only [List.length_cons] at h2; omega)
    unfold sk at hn hen
    unfold sk at hy
    clear hJk hJ2 hr hr2 hp hperm hc2 hrc
    gi_wp2
    refine hR.mono ?_
    rintro e W3 (⟨rfl, hJ4, hk4⟩ | ⟨rfl, hJ4⟩)
    · gi_wp2
      have hrg3 := Hr.out.keepsW hk4
      go_roundw
      case rel => exact ⟨ks ++ [k1], rest', hrg3, Hp.out, hJ4⟩
      case measure => rw [hrg3.left_eq, Hre.out.left_eq]; exact Hpl.out
    · gi_wp2
      refine bodyPost_ret (results_none rfl _ _ _) rfl ?_
      exact ⟨⟨_, rfl⟩, Or.inr ⟨_, trivial, hJ4⟩⟩
theorem keysE_stops (n Bm b : Nat) (es : List (ByteArray × Value)) (w : World) (hBm : Bm < w.heap.size) (hm : w.cell? ⟨Bm, 0, none⟩ = some (.map (some b))) (hmap : MapAt Tryz.prog 9 sk w b es) :
 SeqStopsK Fence.wide (n + 1) Tryz.prog 104 #[.pointer (some ⟨Bm, 0, none⟩)] (fun x : ByteArray => #[sk x]) KeepsWalks (fun ks => ks.Perm (es.map (·.1))) (fun _ => True) es.length w :=
 fun l J Jx W hW hJ _ hY h0 => keysE_in n l Bm b es J Jx hY W hJ ((hW.cell (p := ⟨Bm, 0, none⟩) hBm).trans hm) (hmap.of_block (hW.block b hmap.lt)) h0
def CellB (W : World) (S : List Nat) : Prop := ∀ k ∈ S, ∃ c t fr, W.heap[k]? = some (.cells c t fr)
theorem keepsFrom_of_chg {B : Nat} {S : List Nat} {W W' : World} (hc : Chg S W W') (hS : CellB W S) : KeepsFrom B W W' :=
 ⟨hc.size, fun k o _ hk ho => by
  by_cases hkS : k ∈ S
  · obtain ⟨c, t, fr, hb⟩ := hS k hkS
    rw [hb] at hk; cases hk; cases ho
  · exact (hc.block k (lt_of_obj hk) hkS).trans hk⟩
theorem wpIn_range_boxed {F : Fence} {n : Nat} {P : Program} {α : Type} {g : Operand} {ps : Array Tmp} {assign body : Code} {Q : Exit → Act → World → Prop} {T : Array Value} {w : World}
 (hro : F.round = none) (h1 : 1 ≤ n) {gf : Nat} {lb : Array Value} (hg : ({ tmps := T, defers := [] } : Act).eval g = .func (.func gf) #[] lb) (hFg : F.fn gf) (eg : ∀ args w, (callFunc gf args).run P w = .ok (.enter gf args) w)
 {encs : α → Array Value} {Kp : World → World → Prop} {S Sp : List α → Prop} {N : Nat} {w0 : World} (hseq : SeqStopsK F (n - 1) P gf lb encs Kp S Sp N w0)
 (hKt : ∀ {A B C : World}, Kp A B → Kp B C → Kp A C) (hKb : ∀ (W : World) (l : Nat) (o o' : Obj), w.heap.size ≤ l → W.heap[l]? = some o → o.isCells = false → o.isWalk = false → Kp W (W.putObj l o')) (hb0 : Below w0.heap.size w0 w) (hps : ∀ x, (encs x).size = ps.size)
 (I : List α → World → Prop) (Ix : Code → List α → World → Prop) (hI : OwnFrom w.heap.size I) (hIx : ∀ c, OwnFrom w.heap.size (Ix c)) (h0 : I [] w) (A : α → Nat → Array Value → Array Value) (G : α → Nat → World → Prop) (hG : ∀ x gd, OwnFrom w.heap.size (fun (_ : Unit) W => G x gd W))
 (hassign : ∀ (l : Nat) (pre : List α) (x : α) (W : World) (K : Act → World → Prop), I pre W → (∀ gd W', KeepsFrom w.heap.size W W' → Kp W W' → I pre W' → G x gd W' → K { tmps := A x gd T, defers := [] } W') →
  assign.wpIn (F.inRound l) (n - 1 - 1) P (Exit.then K (fun _ _ _ => False)) { tmps := (ps.zip (encs x)).foldl (fun t (p, v) => t.setIfInBounds p v) T, defers := [] } W)
 (hbody : ∀ (l : Nat) (pre : List α) (x : α) (gd : Nat) (W : World), I pre W → G x gd W → pre.length < N → body.wpIn (F.inRound l) (n - 1 - 1) P (ownPostG w.heap.size Kp I Ix (pre ++ [x]) W) { tmps := A x gd T, defers := [] } W)
 (hdone : ∀ (D : Nat) (xs : List α) (W : World), w.heap.size ≤ D → S xs → I xs W → W.heap[D]? = some (.deferred (some [])) → Q .normal { tmps := T, defers := [{ target := .collected D, args := #[] }] } W)
 (hstop : ∀ (D : Nat) (c : Code) (pre : List α) (W : World), w.heap.size ≤ D → Sp pre → Ix c pre W → W.heap[D]? = some (.deferred (some [])) → c.wpIn F n P Q { tmps := T, defers := [{ target := .collected D, args := #[] }] } W) :
 (Code.rangeFunc g ps assign body).wpIn F n P Q { tmps := T, defers := [] } w :=
 wpIn_rangeFunc_ownH hro h1 hg hFg eg hseq (fun h k => hKt h k) hKb hb0 hps I Ix hI hIx h0 (fun x a' W => ∃ gd, a' = { tmps := A x gd T, defers := [] } ∧ G x gd W)
  (fun x a' u W W' row hs hgr hr => by obtain ⟨gd, ha, hs⟩ := hs; exact ⟨gd, ha, hG x gd u W W' row hs hgr hr⟩)
  (fun l pre x W K hi hK => hassign l pre x W K hi fun gd W' k1 k2 k3 k4 => hK _ _ k1 k2 k3 ⟨gd, rfl, k4⟩)
  (fun l pre x a' W _ _ hi ha hlt => by obtain ⟨gd, rfl, hs⟩ := ha; exact hbody l pre x gd W hi hs hlt) hdone hstop
theorem keepsWalks_of_chg {S : List Nat} {W W' : World} (hc : Chg S W W') (hS : CellB W S) : KeepsWalks W W' :=
 ⟨hc.size, fun k o hk ho => by
  by_cases hkS : k ∈ S
  · obtain ⟨c, t, fr, hb⟩ := hS k hkS
    rw [hb] at hk; cases hk; cases ho
  · exact (hc.block k (lt_of_obj hk) hkS).trans hk⟩
attribute [local go_sem] Oper.semAt_some
def AqS (w : World) (pre : List ByteArray) (W : World) : Prop :=
 ∃ v, Boxed W w.heap.size 22 v ∧ W.ownsRow (w.heap.size + 1) 9 1 v pre.length (pre.map sk) ∧ Chg [] w W ∧ w.heap.size + 1 ≤ W.heap.size
theorem AqS.cells {w W : World} {v : Value} {n : Nat} {us : List Value} (hb : Boxed W w.heap.size 22 v) (hr : W.ownsRow (w.heap.size + 1) 9 1 v n us) : CellB W (w.heap.size :: v.ownBlock.toList) := by
 intro k hk
 rcases List.mem_cons.1 hk with rfl | hk
 · exact ⟨_, _, _, hb⟩
 · rcases hr.2 with ⟨hv, _⟩ | ⟨g', cap', cur', hv, _, hgb, _⟩
   · rw [hv] at hk; simp [Value.ownBlock] at hk
   · rw [hv] at hk
     obtain rfl : g' = k := by simpa [Value.ownBlock, eq_comm] using hk
     exact ⟨_, _, _, hgb⟩
theorem AqS.own (w : World) (D : Nat) (hD : w.heap.size ≤ D) : OwnFrom D (AqS w) := by
 rintro pre A A' row ⟨v, h1, h2, h6, h7⟩ hg hr
 have hne : ∀ {b : Nat} {t : TypeId} {x : Value}, Boxed A b t x → some b ≠ row := fun hb e => by
  obtain ⟨_, o, ho, hc⟩ := hr _ e.symm
  rw [show A.heap[_]? = _ from hb] at ho; cases ho; cases hc
 refine ⟨v, h1.kept hg (hne h1), h2.kept hg ?_, h6.grown hg (fun k e => Or.inr (by have := (hr k e).1; omega)), Nat.le_trans h7 hg.size⟩
 rcases h2.2 with ⟨rfl, _⟩ | ⟨g, cap, cur, rfl, _, hgb, _⟩
 · exact .inl rfl
 · refine .inr fun e' => ?_
   obtain ⟨_, o, ho, hc⟩ := hr g (by simpa [Value.ownBlock] using e'.symm)
   rw [hgb] at ho; cases ho; cases hc
theorem cell_one_new (w : World) (x : Value) (ty : TypeId) : ∀ i u, ([x] : List Value)[i]? = some u → (w.alloc (.cells #[x] ty)).cell? ((⟨w.heap.size, 0, none⟩ : Addr).add i) = some u := by
 intro i u hu
 rw [Addr.add_lit, Nat.zero_add]
 exact cell_of_heap (heap_at _ _ _ rfl) (by simpa using hu)
theorem Tryz.infoStr : (Tryz.prog.info? 9).map (fun i => (i.zero, i.size, i.bytes)) = some (some (.string ⟨#[]⟩), 1, 16) := by kernel_rfl
set_option maxRecDepth 100000 in
set_option maxHeartbeats 4000000 in
theorem appendSeqS_in (n : Nat) (gf : Nat) (lb : Array Value) (eg : ∀ args w, (callFunc gf args).run Tryz.prog w = .ok (.enter gf args) w) (S : List ByteArray → Prop) (N : Nat) (hN : N ≤ 100000) (w : World)
 (hseq : SeqStopsK Fence.wide (n + 1) Tryz.prog gf lb (fun x : ByteArray => #[sk x]) KeepsWalks S (fun _ => True) N (w.alloc (.cells #[.slice none 0 0] 22))) :
 CallsIn Fence.wide (n + 2) Tryz.prog 118 #[.slice none 0 0, .func (.func gf) #[] lb] w fun e w' => ∃ v ks, e = .returned v ∧ S ks ∧ w'.ownsRow (w.heap.size + 1) 9 1 v ks.length (ks.map sk) ∧ Chg [] w w' := by
 obtain ⟨i0, hi, hz0, hz1, hz2⟩ := info_parts Tryz.infoStr
 have Hi := Lib.hid hi
 have Hz0 := Lib.hid hz0
 have Hz1 := Lib.hid hz1
 have Hz2 := Lib.hid hz2
 clear hi hz0 hz1 hz2
 have Hst := hseq
 clear hseq
 refine callsIn_of_wp_marks Tryz.func118 rfl trivial ?_ rfl
 simp only [Tryz.ntmps118, List.size_toArray, List.length_cons, List.length_nil, Nat.reduceAdd, Nat.reduceSub, Array.replicate_succ, Array.replicate_zero, List.push_toArray, List.append_toArray, List.nil_append, List.cons_append]
 gi_wp2
 obtain ⟨WL, hWL⟩ : ∃ x, x = w.alloc (.cells #[.slice none 0 0] 22) := ⟨_, rfl⟩
 have hsz : WL.heap.size = w.heap.size + 1 := by rw [hWL]; simp
 have hcw : Chg [] w WL := by rw [hWL]; exact (Chg.refl [] w).alloc _
 have b0 : Boxed WL w.heap.size 22 (.slice none 0 0) := by rw [hWL]; exact Boxed.new w _ _
 rw [← hWL] at Hst ⊢
 clear hWL
 have H0 : AqS w [] WL := ⟨_, b0, World.ownsRow_nil _ _ _ _, hcw, by omega⟩
 refine wpIn_range_boxed rfl (by omega) (gf := gf) (lb := lb) rfl trivial eg Hst KeepsWalks.trans (fun W l o o' _ hl _ hw => KeepsWalks.putObj o' hl hw) (Below.refl _ _) (fun _ => rfl) (AqS w) (fun _ _ _ => False) (AqS.own w _ (by omega)) (fun _ _ _ _ _ hs _ _ => hs) H0
  (fun x gd T => (T.setIfInBounds 7 (sk x)).setIfInBounds 5 (sk x)) (fun _ _ _ => True) (fun x gd _ _ _ _ _ _ _ => trivial) ?assign ?body ?done ?stop
 case assign =>
  rintro l pre x W K ⟨v, hb, hr, hc, hz⟩ hK
  have hfin := hK 0 W (keepsFrom_of_chg (Chg.refl [] W) (fun k hk => by cases hk)) (keepsWalks_of_chg (Chg.refl [] W) (fun k hk => by cases hk)) ⟨v, hb, hr, hc, hz⟩ trivial
  have HF := Lib.hid hfin
  clear hK hfin
  unfold sk at HF ⊢
  simp only [setIfInBounds_toArray, set_cons_zero, set_cons_succ] at HF ⊢
  gi_wp2
  exact HF.out
 case body =>
  rintro l pre x gd W ⟨v, hb, hr, hc, hz⟩ _ hlt
  obtain ⟨av, cv, rfl⟩ := ownsRow_shape hr
  have c2 := hb.cell
  have lb' := hb.lt
  have Hb := Lib.hid hb
  have Hr := Lib.hid hr
  have Hc := Lib.hid hc
  have hlen : pre.length < 100000 := by omega
  clear hb hr hc Hst H0 b0 hsz hcw
  unfold sk
  simp only [setIfInBounds_toArray, set_cons_zero, set_cons_succ]
  have hend : ∀ (a8 : Option Addr) (cap8 : Nat) (w8 : World), w8.ownsRow (w.heap.size + 1) 9 1 (.slice a8 (pre.length + 1) cap8) (pre.length + 1) (pre.map sk ++ [.string x]) → (W.alloc (.cells #[.string x] 9)).grownBy w8 (Value.slice av pre.length cv).ownBlock →
   w8.cell? ⟨w.heap.size, 0, none⟩ = some (.slice av pre.length cv) ∧ w8.frozen? ⟨w.heap.size, 0, none⟩ = false ∧
   KeepsFrom WL.heap.size W (w8.setCell ⟨w.heap.size, 0, none⟩ (.slice a8 (pre.length + 1) cap8)) ∧ KeepsWalks W (w8.setCell ⟨w.heap.size, 0, none⟩ (.slice a8 (pre.length + 1) cap8)) ∧ AqS w (pre ++ [x]) (w8.setCell ⟨w.heap.size, 0, none⟩ (.slice a8 (pre.length + 1) cap8)) := by
   intro a8 cap8 w8 hown8 hgr8
   have hgo : ∀ g, (Value.slice av pre.length cv).ownBlock = some g → w.heap.size + 1 ≤ g := fun g hg => (ownsRow_ge Hr.out hg).1
   have hb8 : Boxed w8 w.heap.size 22 (.slice av pre.length cv) := (Hb.out.alloc _).kept hgr8 (fun e => by have := hgo _ e.symm; omega)
   have hc8 : Chg ((Value.slice av pre.length cv).ownBlock.toList) W w8 := (((Chg.refl _ W).alloc _).grown hgr8 (fun k e => Or.inl (by simp [e])))
   have hc9 : Chg (w.heap.size :: (Value.slice av pre.length cv).ownBlock.toList) W (w8.setCell ⟨w.heap.size, 0, none⟩ (.slice a8 (pre.length + 1) cap8)) := (hc8.mono (fun k hk => List.mem_cons_of_mem _ hk)).setCell (Or.inl (by simp)) _
   have hcb := AqS.cells Hb.out Hr.out
   refine ⟨hb8.cell, hb8.frozen, keepsFrom_of_chg hc9 hcb, keepsWalks_of_chg hc9 hcb, _, heap_setCell_same hb8 _, ?_, ?_, Nat.le_trans hz hc9.size⟩
   · have e1 : (pre ++ [x]).length = pre.length + 1 := by simp
     have e2 : (pre ++ [x]).map sk = pre.map sk ++ [.string x] := by rw [List.map_append]; rfl
     rw [e1, e2]
     exact ownsRow_kept hown8 fun g hg _ => heap_setCell_ne _ _ _ _ (by have := (ownsRow_ge hown8 hg).1; show g ≠ w.heap.size; omega)
   · exact ⟨hc9.os.trans Hc.out.os, hc9.tape.trans Hc.out.tape, hc9.output.trans Hc.out.output, Nat.le_trans Hc.out.size hc9.size, fun k hk _ => (hc9.block k (Nat.lt_of_lt_of_le hk Hc.out.size) (by
      intro hm
      rcases List.mem_cons.1 hm with rfl | hm
      · omega
      · have := hgo k (by simpa using hm); omega)).trans (Hc.out.block k hk (by simp))⟩
  have Hend := Lib.hid hend
  clear hend
  gi_wp2_with (gi_at_builtin; refine wpListIn_append_own _ rfl _ _ 22 rfl (w.heap.size + 1) 9 i0 (.string ⟨#[]⟩) 1 16 Tryz.underlying22 Hi.out Hz0.out Hz1.out Hz2.out rfl (by decide) (.slice av pre.length cv) pre.length (pre.map sk) rfl (Hr.out.alloc _) ⟨W.heap.size, 0, none⟩ 1 1 [.string x] rfl rfl (cell_one_new _ _ _) (by simp [Value.oneCell']) (by unfold maxLen; omega) (by omega) (by simp; omega) ?_; intro v8 w8 hown8 hgr8 hnil8; obtain ⟨a8, cap8, rfl⟩ := ownsRow_shape hown8; obtain ⟨k12, kf12, hF⟩ := Hend.out a8 cap8 w8 hown8 hgr8; have HF := Lib.hid hF; clear hown8 hgr8 hnil8 hF)
  exact HF.out
 case done =>
  rintro D ks W hD hS ⟨v, hb, hr, hc, hz⟩ hK
  have c2 := hb.cell
  have hne : ∀ g, v.ownBlock = some g → g ≠ D := fun g hg e => by
   obtain ⟨c, t, fr, hcc⟩ := AqS.cells hb hr g (List.mem_cons_of_mem _ (by simp [hg]))
   rw [e, hK] at hcc
   cases hcc
  have hfin : S ks ∧ (W.putObj D (.deferred none)).ownsRow (w.heap.size + 1) 9 1 v ks.length (ks.map sk) ∧ Chg [] w (W.putObj D (.deferred none)) :=
   ⟨hS, ownsRow_kept hr fun g hg _ => World.putObj_heap_other (hne g hg), hc.grown (grownBy_putObj' W D _) (fun k e => Or.inr (by cases e; omega))⟩
  have Hfin := Lib.hid hfin
  clear hS hr hc hb hne hfin Hst H0 b0 hsz hcw
  gi_wp2
  refine ⟨by simp, .inl ⟨_, _, rfl, run_takeDeferred hK, ?_⟩⟩
  refine ⟨_, ?_, _, ks, rfl, Hfin.out.1, Hfin.out.2.1, Hfin.out.2.2⟩
  simp [results, Tryz.f118, go_sem]
 case stop =>
  rintro D c pre W _ _ h _
  exact h.elim
def CollPost (es : List (ByteArray × Value)) (w : World) (e : Ending) (w' : World) : Prop :=
 ∃ (v : Value) (ks : List ByteArray), e = .returned v ∧ ks.Perm (es.map (·.1)) ∧ w'.ownsRow (w.heap.size + 1) 9 1 v ks.length (ks.map sk) ∧ Chg [] w w'
set_option maxHeartbeats 1000000 in
theorem mapsKeysI_any (b : Nat) (w : World) : Calls Tryz.prog 40 #[.map (some b)] w fun e w' =>
 e = .returned (.func (.func 72) #[] #[.pointer (some ⟨w.heap.size, 0, none⟩)]) ∧ w' = w.alloc (.cells #[.map (some b)] 79) := by
 have hmf : ∀ (fn : Fn) (first cap : Array Value) (w : World), (Instr.makeFunc fn first cap).run Tryz.prog w = .ok (.func fn first cap) w := fun _ _ _ _ => rfl
 go_enter Tryz.func40, Tryz.ntmps40
 go_wp2
 go_ret
 exact ⟨rfl, rfl⟩
theorem enterKeysI (args : Array Value) (w : World) : (callFunc 72 args).run Tryz.prog w = .ok (.enter 72 args) w := by go_simp
theorem appendKeysI_any (Bm b : Nat) (es : List (ByteArray × Value)) (hN : es.length ≤ 100000) (w : World) (hm : w.heap[Bm]? = some (.cells #[.map (some b)] 79 (0, 0))) (hmap : MapAt Tryz.prog 9 sk w b es) :
 Calls Tryz.prog 118 #[.slice none 0 0, .func (.func 72) #[] #[.pointer (some ⟨Bm, 0, none⟩)]] w (CollPost es w) := by
 have hca := (Chg.refl [] w).alloc (.cells #[.slice none 0 0] 22)
 exact callsIn_wide.1 (appendSeqS_in 3 _ _ enterKeysI (fun ks => ks.Perm (es.map (·.1))) es.length hN w (keysI_stops 3 Bm b es _ (Nat.lt_of_lt_of_le (lt_of_obj hm) hca.size) (cell_of_heap ((hca.block _ (lt_of_obj hm) (by simp)).trans hm) rfl) (hmap.of_block (hca.block _ hmap.lt (by simp)))))
set_option maxHeartbeats 1000000 in
theorem collectKeysI_any (Bm b : Nat) (es : List (ByteArray × Value)) (hN : es.length ≤ 100000) (w : World) (hm : w.heap[Bm]? = some (.cells #[.map (some b)] 79 (0, 0))) (hmap : MapAt Tryz.prog 9 sk w b es) :
 Calls Tryz.prog 71 #[.func (.func 72) #[] #[.pointer (some ⟨Bm, 0, none⟩)]] w (CollPost es w) := by
 have Hcall := Lib.hid (appendKeysI_any Bm b es hN w hm hmap)
 clear hm hmap
 go_enter Tryz.func71, Tryz.ntmps71
 go_wp2_with fail
 refine Hcall.out.mono ?_
 rintro e w' ⟨v, ks, rfl, h⟩
 go_wp2
 go_ret
 exact ⟨v, ks, rfl, h⟩
set_option maxHeartbeats 1000000 in
theorem mapsKeysE_any (b : Nat) (w : World) : Calls Tryz.prog 64 #[.map (some b)] w fun e w' =>
 e = .returned (.func (.func 104) #[] #[.pointer (some ⟨w.heap.size, 0, none⟩)]) ∧ w' = w.alloc (.cells #[.map (some b)] 122) := by
 have hmf : ∀ (fn : Fn) (first cap : Array Value) (w : World), (Instr.makeFunc fn first cap).run Tryz.prog w = .ok (.func fn first cap) w := fun _ _ _ _ => rfl
 go_enter Tryz.func64, Tryz.ntmps64
 go_wp2
 go_ret
 exact ⟨rfl, rfl⟩
theorem enterKeysE (args : Array Value) (w : World) : (callFunc 104 args).run Tryz.prog w = .ok (.enter 104 args) w := by go_simp
theorem appendKeysE_any (Bm b : Nat) (es : List (ByteArray × Value)) (hN : es.length ≤ 100000) (w : World) (hm : w.heap[Bm]? = some (.cells #[.map (some b)] 122 (0, 0))) (hmap : MapAt Tryz.prog 9 sk w b es) :
 Calls Tryz.prog 118 #[.slice none 0 0, .func (.func 104) #[] #[.pointer (some ⟨Bm, 0, none⟩)]] w (CollPost es w) := by
 have hca := (Chg.refl [] w).alloc (.cells #[.slice none 0 0] 22)
 exact callsIn_wide.1 (appendSeqS_in 3 _ _ enterKeysE (fun ks => ks.Perm (es.map (·.1))) es.length hN w (keysE_stops 3 Bm b es _ (Nat.lt_of_lt_of_le (lt_of_obj hm) hca.size) (cell_of_heap ((hca.block _ (lt_of_obj hm) (by simp)).trans hm) rfl) (hmap.of_block (hca.block _ hmap.lt (by simp)))))
set_option maxHeartbeats 1000000 in
theorem collectKeysE_any (Bm b : Nat) (es : List (ByteArray × Value)) (hN : es.length ≤ 100000) (w : World) (hm : w.heap[Bm]? = some (.cells #[.map (some b)] 122 (0, 0))) (hmap : MapAt Tryz.prog 9 sk w b es) :
 Calls Tryz.prog 71 #[.func (.func 104) #[] #[.pointer (some ⟨Bm, 0, none⟩)]] w (CollPost es w) := by
 have Hcall := Lib.hid (appendKeysE_any Bm b es hN w hm hmap)
 clear hm hmap
 go_enter Tryz.func71, Tryz.ntmps71
 go_wp2_with fail
 refine Hcall.out.mono ?_
 rintro e w' ⟨v, ks, rfl, h⟩
 go_wp2
 go_ret
 exact ⟨v, ks, rfl, h⟩
end Go.Proofs.YtjlknaahpjiibaaGreatDoor.F
