/- maps.Keys: its iterator. -/
import Derived.RangeFuncNested
import Derived.RangeFuncBox
import Derived.RangeFuncBound
import Derived.RangeFuncCalls
import Derived.RangeFuncLeaves
import Derived.RangeFuncGives
import Derived.Shelf.Abstract
import Derived.Shelf.RegionOpen
import Derived.OwnWalkIn
import Derived.TacticsInMore
import Derived.LoopNIn
import Derived.LoopIn
import Derived.BigRegionIn
import Derived.Test.YtdeodcomlakpaaaGj
import Derived.Test.YtdeodcomlakpaaaRange
import Derived.Sort.Statements
/- maps.Keys: its iterator. -/
namespace Go.Proofs.Ytdeodcomlakpaaa
open Go.RowKit Go.ChangeMaps Go.MapKept Go.Shelf
set_option linter.unusedVariables false
set_option linter.unusedSimpArgs false
attribute [local go_sem] Oper.semAt_some
theorem RangeAt.keepsW {P : Program} {K : Type} {kt : TypeId} {ek : K → Value} {w w' : World} {b r : Nat} {es rest : List (K × Value)} (h : RangeAt P kt ek w b r es rest) (hk : KeepsWalks w w') : RangeAt P kt ek w' b r es rest := by
  obtain ⟨arr, clock, since, seen, c0, h1, h2, h3, h4, h5, h6⟩ := h
  exact ⟨arr, clock, since, seen, c0, hk.same b _ h1 rfl, h2, h3, h4, hk.same r _ h5 rfl, h6⟩
theorem RangeAt.iter {P : Program} {K : Type} {kt : TypeId} {ek : K → Value} {w : World} {b r : Nat} {es rest : List (K × Value)} (h : RangeAt P kt ek w b r es rest) : ∃ o : Obj, w.heap[r]? = some o ∧ o.isWalk = true := by
  obtain ⟨arr, clock, since, seen, c0, h1, h2, h3, h4, h5, h6⟩ := h
  exact ⟨_, h5, rfl⟩
theorem Chg.grownBy1 {r : Nat} {w w' : World} (h : Chg [r] w w') : w.grownBy w' (some r) :=
  ⟨h.os, h.tape, h.output, h.size, fun k hk hn => h.block k hk (by simp only [List.mem_singleton]; intro e; exact hn (by rw [e]))⟩
set_option maxRecDepth 100000 in
set_option maxHeartbeats 2000000 in
theorem keys1_in (n l Bm b : Nat) (es : List (QK × Value)) (J Jx : List QK → World → Prop)
    (hY : ∀ pre x W, J pre W → pre.length < es.length → YieldAt Fence.wide n Try.prog l #[i3v x] W fun e W' => (e = .returned (.bool true) ∧ J (pre ++ [x]) W' ∧ KeepsWalks W W') ∨ (e = .returned (.bool false) ∧ Jx (pre ++ [x]) W'))
    (W : World) (hJ : AbidesFrom W.heap.size J) (hm : W.cell? ⟨Bm, 0, none⟩ = some (.map (some b))) (hmap : MapAt Try.prog 27 Inp.qk W b es) (h0 : J [] W) :
    CallsIn Fence.wide (n + 1) Try.prog 97 #[.func (.yield l) #[] #[], .pointer (some ⟨Bm, 0, none⟩)] W fun e W' => (∃ v, e = .returned v) ∧ ((∃ ks : List QK, ks.Perm (es.map (·.1)) ∧ J ks W') ∨ ∃ pre, True ∧ Jx pre W') := by
  obtain ⟨o, hrun, hrg⟩ := hmap.range Try.underlying85
  have hJ0 := hJ [] W (W.alloc o) none h0 (World.grownBy_alloc W o none) (fun r e => by cases e)
  have HJ := Lib.hid hJ
  have HY := Lib.hid hY
  clear hJ hY h0 hmap
  refine callsIn_of_wp Try.func97 rfl trivial ?_ rfl
  simp only [Try.ntmps97, List.size_toArray, List.length_cons, List.length_nil, Nat.reduceAdd, Nat.reduceSub, Array.replicate_succ, Array.replicate_zero, List.push_toArray, List.append_toArray, List.nil_append, List.cons_append]
  gi_wp2
  gi_loopw [3] (fun _ wr => ∃ (ks : List QK) (rest : List (QK × Value)), RangeAt Try.prog 27 Inp.qk wr b W.heap.size es rest ∧ (ks ++ rest.map (·.1)).Perm (es.map (·.1)) ∧ J ks wr) (fun _ wr => wr.rangeLeft b W.heap.size)
  case atStart => exact ⟨[], es, hrg, List.Perm.refl _, hJ0⟩
  case round =>
    obtain ⟨ks, rest, hr, hp, hJk⟩ := hrel
    clear hrun hrg hJ0 hm
    rcases hr.next 0 with ⟨rfl, hn⟩ | ⟨⟨k1, k2, k3⟩, v, rest', w2, hperm, hn, hr2, hc2, hz2, hcell2, hfr2, hen⟩
    · gi_wp2
      go_end0
      exact ⟨⟨_, rfl⟩, Or.inl ⟨ks, by simpa using hp, hJk⟩⟩
    · have hJ2 := HJ.out ks wr w2 (some W.heap.size) hJk hc2.grownBy1 (fun r e => by cases e; exact ⟨Nat.le_refl _, hr.iter⟩)
      have hJ3 := HJ.out ks w2 (w2.alloc (.cells #[.int .i64 k1, .int .i64 k2, .int .i64 k3] 27)) none hJ2 (World.grownBy_alloc w2 _ none) (fun r e => by cases e)
      have hlen : ks.length < es.length := by
        have h1 := hp.length_eq
        have h2 := hperm.length_eq
        simp only [List.length_append, List.length_map, List.length_cons] at h1 h2
        omega
      obtain ⟨fn, tmps, assign, body, hy, hR⟩ := HY.out ks (k1, k2, k3) _ hJ3 hlen
      have hrc := hr2.kept ((Chg.refl [] w2).alloc (.cells #[.int .i64 k1, .int .i64 k2, .int .i64 k3] 27)) (by simp) (by simp)
      have Hr := Lib.hid hrc
      have Hre := Lib.hid hr
      have Hp := Lib.hid (show (ks ++ [(k1, k2, k3)] ++ rest'.map (·.1)).Perm (es.map (·.1)) by
        have h1 := hperm.map (·.1)
        simp only [List.map_cons] at h1
        have h2 : (ks ++ [(k1, k2, k3)] ++ rest'.map (·.1)).Perm (ks ++ rest.map (·.1)) := by
          rw [List.append_assoc]
          exact List.Perm.append_left ks h1.symm
        exact h2.trans hp)
      have Hpl := Lib.hid (show rest'.length < rest.length by have h2 := hperm.length_eq; simp only [List.length_cons] at h2; omega)
      unfold Inp.qk at hn hen
      unfold i3v at hy
      clear hJk hJ2 hJ3 hr hr2 hp hperm hc2 hrc
      gi_wp2
      refine hR.mono ?_
      rintro e W3 (⟨rfl, hJ4, hk4⟩ | ⟨rfl, hJ4⟩)
      · gi_wp2
        have hrg3 := Hr.out.keepsW hk4
        go_roundw
        case rel => exact ⟨ks ++ [(k1, k2, k3)], rest', hrg3, Hp.out, hJ4⟩
        case measure => rw [hrg3.left_eq, Hre.out.left_eq]; exact Hpl.out
      · gi_wp2
        refine bodyPost_ret (results_none rfl _ _ _) rfl ?_
        exact ⟨⟨_, rfl⟩, Or.inr ⟨_, trivial, hJ4⟩⟩
theorem keys_stops (n Bm b : Nat) (es : List (QK × Value)) (w : World) (hBm : Bm < w.heap.size) (hm : w.cell? ⟨Bm, 0, none⟩ = some (.map (some b))) (hmap : MapAt Try.prog 27 Inp.qk w b es) :
    SeqStopsK Fence.wide (n + 1) Try.prog 97 #[.pointer (some ⟨Bm, 0, none⟩)] (fun x : QK => #[i3v x]) KeepsWalks (fun ks => ks.Perm (es.map (·.1))) (fun _ => True) es.length w :=
  fun l J Jx W hW hJ _ hY h0 => keys1_in n l Bm b es J Jx hY W hJ ((hW.cell (p := ⟨Bm, 0, none⟩) hBm).trans hm) (hmap.of_block (hW.block b hmap.lt)) h0
end Go.Proofs.Ytdeodcomlakpaaa
/- slices.AppendSeq, Collect: against whatever iterator over keys. -/
namespace Go.Proofs.Ytdeodcomlakpaaa
open Go.RowKit Go.ChangeMaps Go.MapKept Go.Shelf
set_option linter.unusedVariables false
set_option linter.unusedSimpArgs false
attribute [local go_sem] Oper.semAt_some
/-- blocks of cells -/
def CellB (W : World) (S : List Nat) : Prop := ∀ k ∈ S, ∃ c t fr, W.heap[k]? = some (.cells c t fr)
theorem keepsFrom_of_chg {B : Nat} {S : List Nat} {W W' : World} (hc : Chg S W W') (hS : CellB W S) : KeepsFrom B W W' :=
  ⟨hc.size, fun k o _ hk ho => by
    by_cases hkS : k ∈ S
    · obtain ⟨c, t, fr, hb⟩ := hS k hkS
      rw [hb] at hk; cases hk; cases ho
    · exact (hc.block k (lt_of_obj hk) hkS).trans hk⟩
/-- a range over a function whose rounds have a variable in a box -/
theorem wpIn_range_boxed {F : Fence} {n : Nat} {P : Program} {α : Type} {g : Operand} {ps : Array Tmp} {assign body : Code} {Q : Exit → Act → World → Prop} {T : Array Value} {w : World}
    (hro : F.round = none) (h1 : 1 ≤ n) {gf : Nat} {lb : Array Value} (hg : ({ tmps := T, defers := [] } : Act).eval g = .func (.func gf) #[] lb) (hFg : F.fn gf) (eg : ∀ args w, (callFunc gf args).run P w = .ok (.enter gf args) w)
    {encs : α → Array Value} {Kp : World → World → Prop} {S Sp : List α → Prop} {N : Nat} {w0 : World} (hseq : SeqStopsK F (n - 1) P gf lb encs Kp S Sp N w0)
    (hKt : ∀ {A B C : World}, Kp A B → Kp B C → Kp A C) (hKb : ∀ (W : World) (l : Nat) (o o' : Obj), w.heap.size ≤ l → W.heap[l]? = some o → o.isCells = false → o.isWalk = false → Kp W (W.putObj l o')) (hb0 : Below w0.heap.size w0 w) (hps : ∀ x, (encs x).size = ps.size)
    (I : List α → World → Prop) (Ix : Code → List α → World → Prop) (hI : OwnFrom w.heap.size I) (hIx : ∀ c, OwnFrom w.heap.size (Ix c)) (h0 : I [] w) (A : α → Nat → Array Value → Array Value) (G : α → Nat → World → Prop) (hG : ∀ x gd, OwnFrom w.heap.size (fun (_ : Unit) W => G x gd W))
    (hassign : ∀ (l : Nat) (pre : List α) (x : α) (W : World) (K : Act → World → Prop), I pre W → (∀ gd W', KeepsFrom w.heap.size W W' → Kp W W' → I pre W' → G x gd W' → K { tmps := A x gd T, defers := [] } W') →
      assign.wpIn (F.inRound l) (n - 1 - 1) P (Exit.then K (fun _ _ _ => False)) { tmps := (ps.zip (encs x)).foldl (fun t (p, v) => t.setIfInBounds p v) T, defers := [] } W)
    (hbody : ∀ (l : Nat) (pre : List α) (x : α) (gd : Nat) (W : World), I pre W → G x gd W → pre.length < N → body.wpIn (F.inRound l) (n - 1 - 1) P (ownPostG w.heap.size Kp I Ix (pre ++ [x]) W) { tmps := A x gd T, defers := [] } W)
    (hdone : ∀ (D : Nat) (xs : List α) (W : World), w.heap.size ≤ D → S xs → I xs W → W.heap[D]? = some (.deferred (some [])) → Q .normal { tmps := T, defers := [{ target := .collected D, args := #[] }] } W)
    (hstop : ∀ (D : Nat) (c : Code) (pre : List α) (W : World), w.heap.size ≤ D → Sp pre → Ix c pre W → W.heap[D]? = some (.deferred (some [])) → c.wpIn F n P Q { tmps := T, defers := [{ target := .collected D, args := #[] }] } W) :
    (Code.rangeFunc g ps assign body).wpIn F n P Q { tmps := T, defers := [] } w :=
  wpIn_rangeFunc_ownH hro h1 hg hFg eg hseq (fun h k => hKt h k) hKb hb0 hps I Ix hI hIx h0 (fun x a' W => ∃ gd, a' = { tmps := A x gd T, defers := [] } ∧ G x gd W)
    (fun x a' u W W' row hs hgr hr => by obtain ⟨gd, ha, hs⟩ := hs; exact ⟨gd, ha, hG x gd u W W' row hs hgr hr⟩)
    (fun l pre x W K hi hK => hassign l pre x W K hi fun gd W' k1 k2 k3 k4 => hK _ _ k1 k2 k3 ⟨gd, rfl, k4⟩)
    (fun l pre x a' W _ _ hi ha hlt => by obtain ⟨gd, rfl, hs⟩ := ha; exact hbody l pre x gd W hi hs hlt) hdone hstop

theorem keepsWalks_of_chg {S : List Nat} {W W' : World} (hc : Chg S W W') (hS : CellB W S) : KeepsWalks W W' :=
  ⟨hc.size, fun k o hk ho => by
    by_cases hkS : k ∈ S
    · obtain ⟨c, t, fr, hb⟩ := hS k hkS
      rw [hb] at hk; cases hk; cases ho
    · exact (hc.block k (lt_of_obj hk) hkS).trans hk⟩
/-- what has come so far -/
def AqI (w : World) (pre : List QK) (W : World) : Prop :=
  ∃ v, Boxed W w.heap.size 53 v ∧ W.ownsRow (w.heap.size + 1) 27 3 v pre.length (flat3 pre) ∧ Chg [] w W ∧ w.heap.size + 1 ≤ W.heap.size
theorem AqI.cells {w W : World} {v : Value} {n : Nat} {us : List Value} (hb : Boxed W w.heap.size 53 v) (hr : W.ownsRow (w.heap.size + 1) 27 3 v n us) : CellB W (w.heap.size :: v.ownBlock.toList) := by
  intro k hk
  rcases List.mem_cons.1 hk with rfl | hk
  · exact ⟨_, _, _, hb⟩
  · rcases hr.2 with ⟨hv, _⟩ | ⟨g', cap', cur', hv, _, hgb, _⟩
    · rw [hv] at hk; simp [Value.ownBlock] at hk
    · rw [hv] at hk
      obtain rfl : g' = k := by simpa [Value.ownBlock, eq_comm] using hk
      exact ⟨_, _, _, hgb⟩
theorem AqI.own (w : World) (D : Nat) (hD : w.heap.size ≤ D) : OwnFrom D (AqI w) := by
  rintro pre A A' row ⟨v, h1, h2, h6, h7⟩ hg hr
  have hne : ∀ {b : Nat} {t : TypeId} {x : Value}, Boxed A b t x → some b ≠ row := fun hb e => by
    obtain ⟨_, o, ho, hc⟩ := hr _ e.symm
    rw [show A.heap[_]? = _ from hb] at ho; cases ho; cases hc
  refine ⟨v, h1.kept hg (hne h1), h2.kept hg ?_, h6.grown hg (fun k e => Or.inr (by have := (hr k e).1; omega)), Nat.le_trans h7 hg.size⟩
  rcases h2.2 with ⟨rfl, _⟩ | ⟨g, cap, cur, rfl, _, hgb, _⟩
  · exact .inl rfl
  · refine .inr fun e' => ?_
    obtain ⟨_, o, ho, hc⟩ := hr g (by simpa [Value.ownBlock] using e'.symm)
    rw [hgb] at ho; cases ho; cases hc
/-- the round's key, in its box -/
def GKey (w : World) (x : QK) (gd : Nat) (W : World) : Prop :=
  W.heap[gd]? = some (.cells #[.int .i64 x.1, .int .i64 x.2.1, .int .i64 x.2.2] 27 (0, 0)) ∧ w.heap.size + 1 ≤ gd ∧ ∃ v, Boxed W w.heap.size 53 v ∧ v.ownBlock ≠ some gd
theorem GKey.own (w : World) (x : QK) (gd D : Nat) : OwnFrom D (fun (_ : Unit) W => GKey w x gd W) := by
  rintro u A A' row ⟨h1, h2, v, h3, h4⟩ hg hr
  have hne : ∀ {b : Nat} {c : Array Value} {t : TypeId}, A.heap[b]? = some (.cells c t (0, 0)) → some b ≠ row := fun hb e => by
    obtain ⟨_, o, ho, hc⟩ := hr _ e.symm
    rw [hb] at ho; cases ho; cases hc
  exact ⟨(hg.block gd (lt_of_obj h1) (hne h1)).trans h1, h2, v, h3.kept hg (hne h3), h4⟩
theorem cell_three_newB (w : World) (x y z : Value) (ty : TypeId) : ∀ i u, ([x, y, z] : List Value)[i]? = some u → (w.alloc (.cells #[x, y, z] ty)).cell? ((⟨w.heap.size, 0, none⟩ : Addr).add i) = some u := by
  intro i u hu
  rw [Addr.add_lit, Nat.zero_add]
  exact cell_of_heap (heap_at _ _ _ rfl) (by simpa using hu)
theorem Try.infoKey2 : (Try.prog.info? 27).map (fun i => (i.zero, i.size, i.bytes)) = some (some (.agg #[.int .i64 0, .int .i64 0, .int .i64 0]), 3, 24) := by kernel_rfl
set_option maxRecDepth 100000 in
set_option maxHeartbeats 4000000 in
theorem appendSeq_in (n : Nat) (gf : Nat) (lb : Array Value) (eg : ∀ args w, (callFunc gf args).run Try.prog w = .ok (.enter gf args) w) (S : List QK → Prop) (N : Nat) (hN : N ≤ 1000) (w : World)
    (hseq : SeqStopsK Fence.wide (n + 1) Try.prog gf lb (fun x : QK => #[i3v x]) KeepsWalks S (fun _ => True) N (w.alloc (.cells #[.slice none 0 0] 53))) :
    CallsIn Fence.wide (n + 2) Try.prog 108 #[.slice none 0 0, .func (.func gf) #[] lb] w fun e w' => ∃ v ks, e = .returned v ∧ S ks ∧ w'.ownsRow (w.heap.size + 1) 27 3 v ks.length (flat3 ks) ∧ Chg [] w w' := by
  obtain ⟨i0, hi, hz0, hz1, hz2⟩ := info_parts Try.infoKey2
  have Hi := Lib.hid hi
  have Hz0 := Lib.hid hz0
  have Hz1 := Lib.hid hz1
  have Hz2 := Lib.hid hz2
  clear hi hz0 hz1 hz2
  have Hst := hseq
  clear hseq
  refine callsIn_of_wp_marks Try.func108 rfl trivial ?_ rfl
  simp only [Try.ntmps108, List.size_toArray, List.length_cons, List.length_nil, Nat.reduceAdd, Nat.reduceSub, Array.replicate_succ, Array.replicate_zero, List.push_toArray, List.append_toArray, List.nil_append, List.cons_append]
  gi_wp2
  obtain ⟨WL, hWL⟩ : ∃ x, x = w.alloc (.cells #[.slice none 0 0] 53) := ⟨_, rfl⟩
  have hsz : WL.heap.size = w.heap.size + 1 := by rw [hWL]; simp
  have hcw : Chg [] w WL := by rw [hWL]; exact (Chg.refl [] w).alloc _
  have b0 : Boxed WL w.heap.size 53 (.slice none 0 0) := by rw [hWL]; exact Boxed.new w _ _
  rw [← hWL] at Hst ⊢
  clear hWL
  have H0 : AqI w [] WL := ⟨_, b0, World.ownsRow_nil _ _ _ _, hcw, by omega⟩
  refine wpIn_range_boxed rfl (by omega) (gf := gf) (lb := lb) rfl trivial eg Hst KeepsWalks.trans (fun W l o o' _ hl _ hw => KeepsWalks.putObj o' hl hw) (Below.refl _ _) (fun _ => rfl) (AqI w) (fun _ _ _ => False) (AqI.own w _ (by omega)) (fun _ _ _ _ _ hs _ _ => hs) H0
    (fun x gd T => (T.setIfInBounds 7 (i3v x)).setIfInBounds 5 (.pointer (some ⟨gd, 0, none⟩))) (GKey w) (fun x gd => GKey.own w x gd _) ?assign ?body ?done ?stop
  case assign =>
    rintro l pre ⟨k1, k2, k3⟩ W K ⟨v, hb, hr, hc, hz⟩ hK
    have hca := (Chg.refl [] W).alloc (.cells #[.int .i64 k1, .int .i64 k2, .int .i64 k3] 27)
    have hfin := hK W.heap.size (W.alloc (.cells #[.int .i64 k1, .int .i64 k2, .int .i64 k3] 27)) (keepsFrom_of_chg hca (fun k hk => by cases hk)) (keepsWalks_of_chg hca (fun k hk => by cases hk))
      ⟨v, hb.alloc _, hr.alloc _, hc.trans hca, by have := hca.size; omega⟩ ⟨heap_at _ _ _ rfl, hz, v, hb.alloc _, fun h => by have := (hr.lt _ h).2; omega⟩
    have HF := Lib.hid hfin
    clear hK hfin
    unfold i3v at HF ⊢
    simp only [List.setIfInBounds_toArray, List.set_cons_zero, List.set_cons_succ] at HF ⊢
    gi_wp2
    exact HF.out
  case body =>
    rintro l pre ⟨k1, k2, k3⟩ gd W ⟨v, hb, hr, hc, hz⟩ ⟨hgd, hgM, v', hv', hne⟩ hlt
    obtain rfl : v' = v := by
      have h1 : W.heap[w.heap.size]? = _ := hv'
      rw [show W.heap[w.heap.size]? = _ from hb] at h1
      simpa using h1.symm
    obtain ⟨av, cv, rfl⟩ := ownsRow_shape hr
    have g0 : W.cell? ⟨gd, 0, none⟩ = some (.int .i64 k1) := cell_of_heap hgd rfl
    have g1 : W.cell? ⟨gd, 1, none⟩ = some (.int .i64 k2) := cell_of_heap hgd rfl
    have g2 : W.cell? ⟨gd, 2, none⟩ = some (.int .i64 k3) := cell_of_heap hgd rfl
    have c2 := hb.cell
    have lb' := hb.lt
    have lgd : gd < W.heap.size := lt_of_cell g0
    have Hb := Lib.hid hb
    have Hr := Lib.hid hr
    have Hc := Lib.hid hc
    have hlen : pre.length < 1000 := by omega
    clear hb hr hc hgd hne hv' Hst H0 b0 hsz hcw
    unfold i3v
    simp only [List.setIfInBounds_toArray, List.set_cons_zero, List.set_cons_succ]
    have hend : ∀ (a8 : Option Addr) (cap8 : Nat) (w8 : World), w8.ownsRow (w.heap.size + 1) 27 3 (.slice a8 (pre.length + 1) cap8) (pre.length + 1) (flat3 pre ++ [.int .i64 k1, .int .i64 k2, .int .i64 k3]) → (W.alloc (.cells #[.int .i64 k1, .int .i64 k2, .int .i64 k3] 27)).grownBy w8 (Value.slice av pre.length cv).ownBlock →
        w8.cell? ⟨w.heap.size, 0, none⟩ = some (.slice av pre.length cv) ∧ w8.frozen? ⟨w.heap.size, 0, none⟩ = false ∧
        KeepsFrom WL.heap.size W (w8.setCell ⟨w.heap.size, 0, none⟩ (.slice a8 (pre.length + 1) cap8)) ∧ KeepsWalks W (w8.setCell ⟨w.heap.size, 0, none⟩ (.slice a8 (pre.length + 1) cap8)) ∧ AqI w (pre ++ [(k1, k2, k3)]) (w8.setCell ⟨w.heap.size, 0, none⟩ (.slice a8 (pre.length + 1) cap8)) := by
      intro a8 cap8 w8 hown8 hgr8
      have hgo : ∀ g, (Value.slice av pre.length cv).ownBlock = some g → w.heap.size + 1 ≤ g := fun g hg => (ownsRow_ge Hr.out hg).1
      have hb8 : Boxed w8 w.heap.size 53 (.slice av pre.length cv) := (Hb.out.alloc _).kept hgr8 (fun e => by have := hgo _ e.symm; omega)
      have hc8 : Chg ((Value.slice av pre.length cv).ownBlock.toList) W w8 := (((Chg.refl _ W).alloc _).grown hgr8 (fun k e => Or.inl (by simp [e])))
      have hc9 : Chg (w.heap.size :: (Value.slice av pre.length cv).ownBlock.toList) W (w8.setCell ⟨w.heap.size, 0, none⟩ (.slice a8 (pre.length + 1) cap8)) := (hc8.mono (fun k hk => List.mem_cons_of_mem _ hk)).setCell (Or.inl (by simp)) _
      have hcb := AqI.cells Hb.out Hr.out
      refine ⟨hb8.cell, hb8.frozen, keepsFrom_of_chg hc9 hcb, keepsWalks_of_chg hc9 hcb, _, heap_setCell_same hb8 _, ?_, ?_, Nat.le_trans hz hc9.size⟩
      · have e1 : (pre ++ [(k1, k2, k3)]).length = pre.length + 1 := by simp
        have e2 : flat3 (pre ++ [(k1, k2, k3)]) = flat3 pre ++ [.int .i64 k1, .int .i64 k2, .int .i64 k3] := by rw [flat3_append]
        rw [e1, e2]
        exact ownsRow_kept hown8 fun g hg _ => heap_setCell_ne _ _ _ _ (by have := (ownsRow_ge hown8 hg).1; show g ≠ w.heap.size; omega)
      · exact ⟨hc9.os.trans Hc.out.os, hc9.tape.trans Hc.out.tape, hc9.output.trans Hc.out.output, Nat.le_trans Hc.out.size hc9.size, fun k hk _ => (hc9.block k (Nat.lt_of_lt_of_le hk Hc.out.size) (by
          intro hm
          rcases List.mem_cons.1 hm with rfl | hm
          · omega
          · have := hgo k (by simpa using hm); omega)).trans (Hc.out.block k hk (by simp))⟩
    have Hend := Lib.hid hend
    clear hend
    gi_wp2_with (gi_at_builtin; refine wpListIn_append_own _ rfl _ _ 53 rfl (w.heap.size + 1) 27 i0 (.agg #[.int .i64 0, .int .i64 0, .int .i64 0]) 3 24 Try.underlying53 Hi.out Hz0.out Hz1.out Hz2.out rfl (by decide) (.slice av pre.length cv) pre.length (flat3 pre) rfl (Hr.out.alloc _) ⟨W.heap.size, 0, none⟩ 1 1 [.int .i64 k1, .int .i64 k2, .int .i64 k3] rfl rfl (cell_three_newB _ _ _ _ _) (by simp [Value.oneCell']) (by unfold maxLen; omega) (by omega) (by simp; omega) ?_; intro v8 w8 hown8 hgr8 hnil8; obtain ⟨a8, cap8, rfl⟩ := ownsRow_shape hown8; obtain ⟨k12, kf12, hF⟩ := Hend.out a8 cap8 w8 hown8 hgr8; have HF := Lib.hid hF; clear hown8 hgr8 hnil8 hF)
    exact HF.out
  case done =>
    rintro D ks W hD hS ⟨v, hb, hr, hc, hz⟩ hK
    have c2 := hb.cell
    have hne : ∀ g, v.ownBlock = some g → g ≠ D := fun g hg e => by
      obtain ⟨c, t, fr, hcc⟩ := AqI.cells hb hr g (List.mem_cons_of_mem _ (by simp [hg]))
      rw [e, hK] at hcc
      cases hcc
    have hfin : S ks ∧ (W.putObj D (.deferred none)).ownsRow (w.heap.size + 1) 27 3 v ks.length (flat3 ks) ∧ Chg [] w (W.putObj D (.deferred none)) :=
      ⟨hS, ownsRow_kept hr fun g hg _ => World.putObj_heap_other (hne g hg), hc.grown (grownBy_putObj' W D _) (fun k e => Or.inr (by cases e; omega))⟩
    have Hfin := Lib.hid hfin
    clear hS hr hc hb hne hfin Hst H0 b0 hsz hcw
    gi_wp2
    refine ⟨by simp, .inl ⟨_, _, rfl, run_takeDeferred hK, ?_⟩⟩
    refine ⟨_, ?_, _, ks, rfl, Hfin.out.1, Hfin.out.2.1, Hfin.out.2.2⟩
    simp [results, Try.f108, go_sem]
  case stop =>
    rintro D c pre W _ _ h _
    exact h.elim
end Go.Proofs.Ytdeodcomlakpaaa
/- maps.Keys, slices.Collect over keys. -/
namespace Go.Proofs.Ytdeodcomlakpaaa
open Go.RowKit Go.ChangeMaps Go.MapKept Go.Shelf
set_option linter.unusedVariables false
set_option linter.unusedSimpArgs false
set_option maxHeartbeats 1000000 in
theorem mapsKeys_any (b : Nat) (w : World) : Calls Try.prog 73 #[.map (some b)] w fun e w' =>
    e = .returned (.func (.func 97) #[] #[.pointer (some ⟨w.heap.size, 0, none⟩)]) ∧ w' = w.alloc (.cells #[.map (some b)] 85) := by
  have hmf : ∀ (fn : Fn) (first cap : Array Value) (w : World), (Instr.makeFunc fn first cap).run Try.prog w = .ok (.func fn first cap) w := fun _ _ _ _ => rfl
  go_enter Try.func73, Try.ntmps73
  go_wp2
  go_ret
  exact ⟨rfl, rfl⟩
theorem enterKeys (args : Array Value) (w : World) : (callFunc 97 args).run Try.prog w = .ok (.enter 97 args) w := by go_simp
def CollPost (es : List (QK × Value)) (w : World) (e : Ending) (w' : World) : Prop :=
  ∃ v ks, e = .returned v ∧ ks.Perm (es.map (·.1)) ∧ w'.ownsRow (w.heap.size + 1) 27 3 v ks.length (flat3 ks) ∧ Chg [] w w'
theorem appendKeys_any (Bm b : Nat) (es : List (QK × Value)) (hN : es.length ≤ 1000) (w : World) (hm : w.heap[Bm]? = some (.cells #[.map (some b)] 85 (0, 0))) (hmap : MapAt Try.prog 27 Inp.qk w b es) :
    Calls Try.prog 108 #[.slice none 0 0, .func (.func 97) #[] #[.pointer (some ⟨Bm, 0, none⟩)]] w (CollPost es w) := by
  have hca := (Chg.refl [] w).alloc (.cells #[.slice none 0 0] 53)
  exact callsIn_wide.1 (appendSeq_in 3 _ _ enterKeys (fun ks => ks.Perm (es.map (·.1))) es.length hN w (keys_stops 3 Bm b es _ (Nat.lt_of_lt_of_le (lt_of_obj hm) hca.size) (cell_of_heap ((hca.block _ (lt_of_obj hm) (by simp)).trans hm) rfl) (hmap.of_block (hca.block _ hmap.lt (by simp)))))
set_option maxHeartbeats 1000000 in
theorem collectKeys_any (Bm b : Nat) (es : List (QK × Value)) (hN : es.length ≤ 1000) (w : World) (hm : w.heap[Bm]? = some (.cells #[.map (some b)] 85 (0, 0))) (hmap : MapAt Try.prog 27 Inp.qk w b es) :
    Calls Try.prog 95 #[.func (.func 97) #[] #[.pointer (some ⟨Bm, 0, none⟩)]] w (CollPost es w) := by
  have Hcall := Lib.hid (appendKeys_any Bm b es hN w hm hmap)
  clear hm hmap
  go_enter Try.func95, Try.ntmps95
  go_wp2_with fail
  refine Hcall.out.mono ?_
  rintro e w' ⟨v, ks, rfl, h⟩
  go_wp2
  go_ret
  exact ⟨v, ks, rfl, h⟩
end Go.Proofs.Ytdeodcomlakpaaa
/- Cached: its comparison. -/
namespace Go.Proofs.Ytdeodcomlakpaaa
open Go.RowKit Go.ChangeMaps Go.MapKept Go.Shelf
set_option linter.unusedVariables false
set_option linter.unusedSimpArgs false
set_option maxRecDepth 100000 in
set_option maxHeartbeats 4000000 in
theorem cachedCmp_any (W : World) (b g1 : Nat) (d : Dm) (x y : QK) (rx ry : Rs) (hx : aget d.es x = some rx) (hy : aget d.es y = some ry) (hkx : Inp.QKok x) (hky : Inp.QKok y) (h : DmAt W b d) (hg : W.heap[g1]? = some (.cells #[.pointer (some ⟨b, 0, none⟩)] 24 (0, 0))) :
    Calls Try.prog 74 #[i3v x, i3v y, .pointer (some ⟨g1, 0, none⟩)] W fun e w' => e = .returned (.int .i64 (wrap64 (rx.use - ry.use))) ∧ w' = ((W.alloc (.cells #[.int .i64 x.1, .int .i64 x.2.1, .int .i64 x.2.2] 27)).alloc (.cells #[.int .i64 y.1, .int .i64 y.2.1, .int .i64 y.2.2] 27)).drew := by
  obtain ⟨x1, x2, x3⟩ := x
  obtain ⟨y1, y2, y3⟩ := y
  obtain ⟨wa, hwa⟩ : ∃ z, z = (W.alloc (.cells #[.int .i64 x1, .int .i64 x2, .int .i64 x3] 27)).alloc (.cells #[.int .i64 y1, .int .i64 y2, .int .i64 y3] 27) := ⟨_, rfl⟩
  have hca : Chg [] W wa := by rw [hwa]; exact ((Chg.refl [] W).alloc _).alloc _
  have hk1 : wa.heap[W.heap.size]? = some (.cells #[.int .i64 x1, .int .i64 x2, .int .i64 x3] 27 (0, 0)) := by rw [hwa]; exact (heap_past _ _ _ (by simp)).trans (heap_at _ _ _ rfl)
  have hk2 : wa.heap[W.heap.size + 1]? = some (.cells #[.int .i64 y1, .int .i64 y2, .int .i64 y3] 27 (0, 0)) := by rw [hwa]; exact heap_at _ _ _ (by simp)
  unfold i3v
  have Ha := Lib.hid (h.new hca)
  have Hg := Lib.hid ((hca.block _ (lt_of_obj hg) (by simp)).trans hg)
  have Hk := Lib.hid (And.intro hk1 hk2)
  have Hx := Lib.hid (And.intro hx hkx)
  have Hy := Lib.hid (And.intro hy hky)
  clear hca hk1 hk2 h hg hx hy hkx hky
  go_enter Try.func74, Try.ntmps74
  go_wp2_with fail
  rw [← hwa]
  have Hwa := Lib.hid hwa
  clear hwa
  refine wp_region_readsQ 19 (by kernel_rfl) (by kernel_rfl) ?_
  intro wd hwd
  simp only [List.take_succ_cons, List.take_zero, List.drop_succ_cons, List.drop_zero]
  have hcd : Chg [] wa wd := by rw [hwd]; exact (Chg.refl _ _).drew
  have hd := Ha.out.new hcd
  have p0 : wd.cell? ⟨g1, 0, none⟩ = some (.pointer (some ⟨b, 0, none⟩)) := cell_of_heap ((hcd.block _ (lt_of_obj Hg.out) (by simp)).trans Hg.out) rfl
  have q2 : wd.cell? ⟨b, 2, none⟩ = some (.map (some d.br)) := cell_of_heap hd.blk rfl
  have a0 : wd.cell? ⟨W.heap.size, 0, none⟩ = some (.int .i64 x1) := cell_of_heap ((hcd.block _ (lt_of_obj Hk.out.1) (by simp)).trans Hk.out.1) rfl
  have a1 : wd.cell? ⟨W.heap.size, 1, none⟩ = some (.int .i64 x2) := cell_of_heap ((hcd.block _ (lt_of_obj Hk.out.1) (by simp)).trans Hk.out.1) rfl
  have a2 : wd.cell? ⟨W.heap.size, 2, none⟩ = some (.int .i64 x3) := cell_of_heap ((hcd.block _ (lt_of_obj Hk.out.1) (by simp)).trans Hk.out.1) rfl
  have b0 : wd.cell? ⟨W.heap.size + 1, 0, none⟩ = some (.int .i64 y1) := cell_of_heap ((hcd.block _ (lt_of_obj Hk.out.2) (by simp)).trans Hk.out.2) rfl
  have b1 : wd.cell? ⟨W.heap.size + 1, 1, none⟩ = some (.int .i64 y2) := cell_of_heap ((hcd.block _ (lt_of_obj Hk.out.2) (by simp)).trans Hk.out.2) rfl
  have b2 : wd.cell? ⟨W.heap.size + 1, 2, none⟩ = some (.int .i64 y3) := cell_of_heap ((hcd.block _ (lt_of_obj Hk.out.2) (by simp)).trans Hk.out.2) rfl
  have hl1 := hd.res.lookup Inp.qkeyed Inp.qk_inj Try.underlying85 (Inp.qkOk Hx.out.2) (ptr_zero wd) false
  have hl2 := hd.res.lookup Inp.qkeyed Inp.qk_inj Try.underlying85 (Inp.qkOk Hy.out.2) (ptr_zero wd) false
  rw [aget_amap, Hx.out.1] at hl1
  rw [aget_amap, Hy.out.1] at hl2
  simp only [Bool.false_eq_true, if_false, Option.map_some, Option.getD_some] at hl1 hl2
  unfold Inp.qk Rs.val at hl1 hl2
  simp only at hl1 hl2
  have u1 : wd.cell? ⟨rx.blk, 6, none⟩ = some (.int .i64 rx.use) := cell_of_heap (hd.rs Hx.out.1).blk rfl
  have u2 : wd.cell? ⟨ry.blk, 6, none⟩ = some (.int .i64 ry.use) := cell_of_heap (hd.rs Hy.out.1).blk rfl
  have Hwd := Lib.hid hwd
  clear hcd hd hwd
  repeat go_big_quiet_step (fail)
  refine wpQuiet_nil ?_
  go_wp2_with fail
  go_ret
  exact ⟨rfl, by rw [Hwd.out, Hwa.out]⟩
end Go.Proofs.Ytdeodcomlakpaaa
