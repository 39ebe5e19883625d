/- maps.Keys, slices.AppendSeq, Collect at strings (printed by gen_keys.py). -/
import Derived.RangeFuncNested
import Derived.RangeFuncBox
import Derived.RangeFuncBound
import Derived.RangeFuncCalls
import Derived.RangeFuncLeaves
import Derived.RangeFuncGives
import Derived.Shelf.Abstract
import Derived.Shelf.RegionOpen
import Derived.OwnWalkIn
import Derived.TacticsInMore
import Derived.LoopNIn
import Derived.LoopIn
import Derived.BigRegionIn
import Derived.Test.YtdekngkcojfhmaaProg
import Derived.Test.YtdekngkcojfhmaaMem
import Derived.Test.YtdekngkcojfhmaaRange
import Derived.Sort.Statements
namespace Go.Proofs.Ytdekngkcojfhmaa
open Go.RowKit Go.ChangeMaps Go.MapKept Go.Shelf
set_option linter.unusedVariables false
set_option linter.unusedSimpArgs false
attribute [local go_sem] Oper.semAt_some
def sk (s : ByteArray) : Value := .string s
theorem skInj (x y : ByteArray) (h : sk x = sk y) : x = y := by unfold sk at h; simpa using h
theorem RangeAt.keepsW {P : Program} {K : Type} {kt : TypeId} {ek : K → Value} {w w' : World} {b r : Nat} {es rest : List (K × Value)} (h : RangeAt P kt ek w b r es rest) (hk : KeepsWalks w w') : RangeAt P kt ek w' b r es rest := by
  obtain ⟨arr, clock, since, seen, c0, h1, h2, h3, h4, h5, h6⟩ := h
  exact ⟨arr, clock, since, seen, c0, hk.same b _ h1 rfl, h2, h3, h4, hk.same r _ h5 rfl, h6⟩
theorem RangeAt.iter {P : Program} {K : Type} {kt : TypeId} {ek : K → Value} {w : World} {b r : Nat} {es rest : List (K × Value)} (h : RangeAt P kt ek w b r es rest) : ∃ o : Obj, w.heap[r]? = some o ∧ o.isWalk = true := by
  obtain ⟨arr, clock, since, seen, c0, h1, h2, h3, h4, h5, h6⟩ := h
  exact ⟨_, h5, rfl⟩
theorem Chg.grownBy1 {r : Nat} {w w' : World} (h : Chg [r] w w') : w.grownBy w' (some r) :=
  ⟨h.os, h.tape, h.output, h.size, fun k hk hn => h.block k hk (by simp only [List.mem_singleton]; intro e; exact hn (by rw [e]))⟩
set_option maxRecDepth 100000 in
set_option maxHeartbeats 2000000 in
theorem keysI_in (n l Bm b : Nat) (es : List (ByteArray × Value)) (J Jx : List ByteArray → World → Prop)
    (hY : ∀ pre x W, J pre W → pre.length < es.length → YieldAt Fence.wide n Try.prog l #[sk x] W fun e W' => (e = .returned (.bool true) ∧ J (pre ++ [x]) W' ∧ KeepsWalks W W') ∨ (e = .returned (.bool false) ∧ Jx (pre ++ [x]) W'))
    (W : World) (hJ : AbidesFrom W.heap.size J) (hm : W.cell? ⟨Bm, 0, none⟩ = some (.map (some b))) (hmap : MapAt Try.prog 9 sk W b es) (h0 : J [] W) :
    CallsIn Fence.wide (n + 1) Try.prog 31 #[.func (.yield l) #[] #[], .pointer (some ⟨Bm, 0, none⟩)] W fun e W' => (∃ v, e = .returned v) ∧ ((∃ ks : List ByteArray, ks.Perm (es.map (·.1)) ∧ J ks W') ∨ ∃ pre, True ∧ Jx pre W') := by
  obtain ⟨o, hrun, hrg⟩ := hmap.range Try.underlying51
  have hJ0 := hJ [] W (W.alloc o) none h0 (World.grownBy_alloc W o none) (fun r e => by cases e)
  have HJ := Lib.hid hJ
  have HY := Lib.hid hY
  clear hJ hY h0 hmap
  refine callsIn_of_wp Try.func31 rfl trivial ?_ rfl
  simp only [Try.ntmps31, List.size_toArray, List.length_cons, List.length_nil, Nat.reduceAdd, Nat.reduceSub, Array.replicate_succ, Array.replicate_zero, List.push_toArray, List.append_toArray, List.nil_append, List.cons_append]
  gi_wp2
  gi_loopw [3] (fun _ wr => ∃ (ks : List ByteArray) (rest : List (ByteArray × Value)), RangeAt Try.prog 9 sk wr b W.heap.size es rest ∧ (ks ++ rest.map (·.1)).Perm (es.map (·.1)) ∧ J ks wr) (fun _ wr => wr.rangeLeft b W.heap.size)
  case atStart => exact ⟨[], es, hrg, List.Perm.refl _, hJ0⟩
  case round =>
    obtain ⟨ks, rest, hr, hp, hJk⟩ := hrel
    clear hrun hrg hJ0 hm
    rcases hr.next 0 with ⟨rfl, hn⟩ | ⟨k1, v, rest', w2, hperm, hn, hr2, hc2, hz2, hcell2, hfr2, hen⟩
    · gi_wp2
      go_end0
      exact ⟨⟨_, rfl⟩, Or.inl ⟨ks, by simpa using hp, hJk⟩⟩
    · have hJ2 := HJ.out ks wr w2 (some W.heap.size) hJk hc2.grownBy1 (fun r e => by cases e; exact ⟨Nat.le_refl _, hr.iter⟩)
      have hlen : ks.length < es.length := by
        have h1 := hp.length_eq
        have h2 := hperm.length_eq
        simp only [List.length_append, List.length_map, List.length_cons] at h1 h2
        omega
      obtain ⟨fn, tmps, assign, body, hy, hR⟩ := HY.out ks k1 _ hJ2 hlen
      have hrc := hr2
      have Hr := Lib.hid hrc
      have Hre := Lib.hid hr
      have Hp := Lib.hid (show (ks ++ [k1] ++ rest'.map (·.1)).Perm (es.map (·.1)) by
        have h1 := hperm.map (·.1)
        simp only [List.map_cons] at h1
        have h2 : (ks ++ [k1] ++ rest'.map (·.1)).Perm (ks ++ rest.map (·.1)) := by
          rw [List.append_assoc]
          exact List.Perm.append_left ks h1.symm
        exact h2.trans hp)
      have Hpl := Lib.hid (show rest'.length < rest.length by have h2 := hperm.length_eq; simp only [List.length_cons] at h2; omega)
      unfold sk at hn hen
      unfold sk at hy
      clear hJk hJ2 hr hr2 hp hperm hc2 hrc
      gi_wp2
      refine hR.mono ?_
      rintro e W3 (⟨rfl, hJ4, hk4⟩ | ⟨rfl, hJ4⟩)
      · gi_wp2
        have hrg3 := Hr.out.keepsW hk4
        go_roundw
        case rel => exact ⟨ks ++ [k1], rest', hrg3, Hp.out, hJ4⟩
        case measure => rw [hrg3.left_eq, Hre.out.left_eq]; exact Hpl.out
      · gi_wp2
        refine bodyPost_ret (results_none rfl _ _ _) rfl ?_
        exact ⟨⟨_, rfl⟩, Or.inr ⟨_, trivial, hJ4⟩⟩
theorem keysI_stops (n Bm b : Nat) (es : List (ByteArray × Value)) (w : World) (hBm : Bm < w.heap.size) (hm : w.cell? ⟨Bm, 0, none⟩ = some (.map (some b))) (hmap : MapAt Try.prog 9 sk w b es) :
    SeqStopsK Fence.wide (n + 1) Try.prog 31 #[.pointer (some ⟨Bm, 0, none⟩)] (fun x : ByteArray => #[sk x]) KeepsWalks (fun ks => ks.Perm (es.map (·.1))) (fun _ => True) es.length w :=
  fun l J Jx W hW hJ _ hY h0 => keysI_in n l Bm b es J Jx hY W hJ ((hW.cell (p := ⟨Bm, 0, none⟩) hBm).trans hm) (hmap.of_block (hW.block b hmap.lt)) h0
set_option maxRecDepth 100000 in
set_option maxHeartbeats 2000000 in
theorem keysE_in (n l Bm b : Nat) (es : List (ByteArray × Value)) (J Jx : List ByteArray → World → Prop)
    (hY : ∀ pre x W, J pre W → pre.length < es.length → YieldAt Fence.wide n Try.prog l #[sk x] W fun e W' => (e = .returned (.bool true) ∧ J (pre ++ [x]) W' ∧ KeepsWalks W W') ∨ (e = .returned (.bool false) ∧ Jx (pre ++ [x]) W'))
    (W : World) (hJ : AbidesFrom W.heap.size J) (hm : W.cell? ⟨Bm, 0, none⟩ = some (.map (some b))) (hmap : MapAt Try.prog 9 sk W b es) (h0 : J [] W) :
    CallsIn Fence.wide (n + 1) Try.prog 33 #[.func (.yield l) #[] #[], .pointer (some ⟨Bm, 0, none⟩)] W fun e W' => (∃ v, e = .returned v) ∧ ((∃ ks : List ByteArray, ks.Perm (es.map (·.1)) ∧ J ks W') ∨ ∃ pre, True ∧ Jx pre W') := by
  obtain ⟨o, hrun, hrg⟩ := hmap.range Try.underlying61
  have hJ0 := hJ [] W (W.alloc o) none h0 (World.grownBy_alloc W o none) (fun r e => by cases e)
  have HJ := Lib.hid hJ
  have HY := Lib.hid hY
  clear hJ hY h0 hmap
  refine callsIn_of_wp Try.func33 rfl trivial ?_ rfl
  simp only [Try.ntmps33, List.size_toArray, List.length_cons, List.length_nil, Nat.reduceAdd, Nat.reduceSub, Array.replicate_succ, Array.replicate_zero, List.push_toArray, List.append_toArray, List.nil_append, List.cons_append]
  gi_wp2
  gi_loopw [3] (fun _ wr => ∃ (ks : List ByteArray) (rest : List (ByteArray × Value)), RangeAt Try.prog 9 sk wr b W.heap.size es rest ∧ (ks ++ rest.map (·.1)).Perm (es.map (·.1)) ∧ J ks wr) (fun _ wr => wr.rangeLeft b W.heap.size)
  case atStart => exact ⟨[], es, hrg, List.Perm.refl _, hJ0⟩
  case round =>
    obtain ⟨ks, rest, hr, hp, hJk⟩ := hrel
    clear hrun hrg hJ0 hm
    rcases hr.next 0 with ⟨rfl, hn⟩ | ⟨k1, v, rest', w2, hperm, hn, hr2, hc2, hz2, hcell2, hfr2, hen⟩
    · gi_wp2
      go_end0
      exact ⟨⟨_, rfl⟩, Or.inl ⟨ks, by simpa using hp, hJk⟩⟩
    · have hJ2 := HJ.out ks wr w2 (some W.heap.size) hJk hc2.grownBy1 (fun r e => by cases e; exact ⟨Nat.le_refl _, hr.iter⟩)
      have hlen : ks.length < es.length := by
        have h1 := hp.length_eq
        have h2 := hperm.length_eq
        simp only [List.length_append, List.length_map, List.length_cons] at h1 h2
        omega
      obtain ⟨fn, tmps, assign, body, hy, hR⟩ := HY.out ks k1 _ hJ2 hlen
      have hrc := hr2
      have Hr := Lib.hid hrc
      have Hre := Lib.hid hr
      have Hp := Lib.hid (show (ks ++ [k1] ++ rest'.map (·.1)).Perm (es.map (·.1)) by
        have h1 := hperm.map (·.1)
        simp only [List.map_cons] at h1
        have h2 : (ks ++ [k1] ++ rest'.map (·.1)).Perm (ks ++ rest.map (·.1)) := by
          rw [List.append_assoc]
          exact List.Perm.append_left ks h1.symm
        exact h2.trans hp)
      have Hpl := Lib.hid (show rest'.length < rest.length by have h2 := hperm.length_eq; simp only [List.length_cons] at h2; omega)
      unfold sk at hn hen
      unfold sk at hy
      clear hJk hJ2 hr hr2 hp hperm hc2 hrc
      gi_wp2
      refine hR.mono ?_
      rintro e W3 (⟨rfl, hJ4, hk4⟩ | ⟨rfl, hJ4⟩)
      · gi_wp2
        have hrg3 := Hr.out.keepsW hk4
        go_roundw
        case rel => exact ⟨ks ++ [k1], rest', hrg3, Hp.out, hJ4⟩
        case measure => rw [hrg3.left_eq, Hre.out.left_eq]; exact Hpl.out
      · gi_wp2
        refine bodyPost_ret (results_none rfl _ _ _) rfl ?_
        exact ⟨⟨_, rfl⟩, Or.inr ⟨_, trivial, hJ4⟩⟩
theorem keysE_stops (n Bm b : Nat) (es : List (ByteArray × Value)) (w : World) (hBm : Bm < w.heap.size) (hm : w.cell? ⟨Bm, 0, none⟩ = some (.map (some b))) (hmap : MapAt Try.prog 9 sk w b es) :
    SeqStopsK Fence.wide (n + 1) Try.prog 33 #[.pointer (some ⟨Bm, 0, none⟩)] (fun x : ByteArray => #[sk x]) KeepsWalks (fun ks => ks.Perm (es.map (·.1))) (fun _ => True) es.length w :=
  fun l J Jx W hW hJ _ hY h0 => keysE_in n l Bm b es J Jx hY W hJ ((hW.cell (p := ⟨Bm, 0, none⟩) hBm).trans hm) (hmap.of_block (hW.block b hmap.lt)) h0
/-- blocks of cells -/
def CellB (W : World) (S : List Nat) : Prop := ∀ k ∈ S, ∃ c t fr, W.heap[k]? = some (.cells c t fr)
theorem keepsFrom_of_chg {B : Nat} {S : List Nat} {W W' : World} (hc : Chg S W W') (hS : CellB W S) : KeepsFrom B W W' :=
  ⟨hc.size, fun k o _ hk ho => by
    by_cases hkS : k ∈ S
    · obtain ⟨c, t, fr, hb⟩ := hS k hkS
      rw [hb] at hk; cases hk; cases ho
    · exact (hc.block k (lt_of_obj hk) hkS).trans hk⟩
/-- a range over a function whose rounds have a variable in a box -/
theorem wpIn_range_boxed {F : Fence} {n : Nat} {P : Program} {α : Type} {g : Operand} {ps : Array Tmp} {assign body : Code} {Q : Exit → Act → World → Prop} {T : Array Value} {w : World}
    (hro : F.round = none) (h1 : 1 ≤ n) {gf : Nat} {lb : Array Value} (hg : ({ tmps := T, defers := [] } : Act).eval g = .func (.func gf) #[] lb) (hFg : F.fn gf) (eg : ∀ args w, (callFunc gf args).run P w = .ok (.enter gf args) w)
    {encs : α → Array Value} {Kp : World → World → Prop} {S Sp : List α → Prop} {N : Nat} {w0 : World} (hseq : SeqStopsK F (n - 1) P gf lb encs Kp S Sp N w0)
    (hKt : ∀ {A B C : World}, Kp A B → Kp B C → Kp A C) (hKb : ∀ (W : World) (l : Nat) (o o' : Obj), w.heap.size ≤ l → W.heap[l]? = some o → o.isCells = false → o.isWalk = false → Kp W (W.putObj l o')) (hb0 : Below w0.heap.size w0 w) (hps : ∀ x, (encs x).size = ps.size)
    (I : List α → World → Prop) (Ix : Code → List α → World → Prop) (hI : OwnFrom w.heap.size I) (hIx : ∀ c, OwnFrom w.heap.size (Ix c)) (h0 : I [] w) (A : α → Nat → Array Value → Array Value) (G : α → Nat → World → Prop) (hG : ∀ x gd, OwnFrom w.heap.size (fun (_ : Unit) W => G x gd W))
    (hassign : ∀ (l : Nat) (pre : List α) (x : α) (W : World) (K : Act → World → Prop), I pre W → (∀ gd W', KeepsFrom w.heap.size W W' → Kp W W' → I pre W' → G x gd W' → K { tmps := A x gd T, defers := [] } W') →
      assign.wpIn (F.inRound l) (n - 1 - 1) P (Exit.then K (fun _ _ _ => False)) { tmps := (ps.zip (encs x)).foldl (fun t (p, v) => t.setIfInBounds p v) T, defers := [] } W)
    (hbody : ∀ (l : Nat) (pre : List α) (x : α) (gd : Nat) (W : World), I pre W → G x gd W → pre.length < N → body.wpIn (F.inRound l) (n - 1 - 1) P (ownPostG w.heap.size Kp I Ix (pre ++ [x]) W) { tmps := A x gd T, defers := [] } W)
    (hdone : ∀ (D : Nat) (xs : List α) (W : World), w.heap.size ≤ D → S xs → I xs W → W.heap[D]? = some (.deferred (some [])) → Q .normal { tmps := T, defers := [{ target := .collected D, args := #[] }] } W)
    (hstop : ∀ (D : Nat) (c : Code) (pre : List α) (W : World), w.heap.size ≤ D → Sp pre → Ix c pre W → W.heap[D]? = some (.deferred (some [])) → c.wpIn F n P Q { tmps := T, defers := [{ target := .collected D, args := #[] }] } W) :
    (Code.rangeFunc g ps assign body).wpIn F n P Q { tmps := T, defers := [] } w :=
  wpIn_rangeFunc_ownH hro h1 hg hFg eg hseq (fun h k => hKt h k) hKb hb0 hps I Ix hI hIx h0 (fun x a' W => ∃ gd, a' = { tmps := A x gd T, defers := [] } ∧ G x gd W)
    (fun x a' u W W' row hs hgr hr => by obtain ⟨gd, ha, hs⟩ := hs; exact ⟨gd, ha, hG x gd u W W' row hs hgr hr⟩)
    (fun l pre x W K hi hK => hassign l pre x W K hi fun gd W' k1 k2 k3 k4 => hK _ _ k1 k2 k3 ⟨gd, rfl, k4⟩)
    (fun l pre x a' W _ _ hi ha hlt => by obtain ⟨gd, rfl, hs⟩ := ha; exact hbody l pre x gd W hi hs hlt) hdone hstop

theorem keepsWalks_of_chg {S : List Nat} {W W' : World} (hc : Chg S W W') (hS : CellB W S) : KeepsWalks W W' :=
  ⟨hc.size, fun k o hk ho => by
    by_cases hkS : k ∈ S
    · obtain ⟨c, t, fr, hb⟩ := hS k hkS
      rw [hb] at hk; cases hk; cases ho
    · exact (hc.block k (lt_of_obj hk) hkS).trans hk⟩
end Go.Proofs.Ytdekngkcojfhmaa
