/- slices.Backward of steps: the iterator's contract. slices.Reverse of steps. -/
import Derived.RangeFuncNested
import Derived.RangeFuncBox
import Derived.RangeFuncBound
import Derived.RangeFuncCalls
import Derived.RangeFuncLeaves
import Derived.Shelf.Abstract
import Derived.Shelf.RegionOpen
import Derived.OwnWalkIn
import Derived.TacticsInMore
import Derived.LoopNIn
import Derived.LoopIn
import Derived.BigRegionIn
import Derived.Test.YtaciceaipmclgaaFxG
namespace Go.Proofs.Ytaciceaipmclgaa
open Go.RowKit Go.Shelf
set_option linter.unusedVariables false
attribute [local go_sem] Oper.semAt_some
/-- an index -/
abbrev Bk (m : Nat) : Type := { j : Nat // j ≤ m }
def bkAt (m q : Nat) : Bk m := ⟨m - q, by omega⟩
def bkU (m k : Nat) : List (Bk m) := (List.range k).map (bkAt m)
theorem bkU_succ (m k : Nat) : bkU m (k + 1) = bkU m k ++ [bkAt m k] := by simp [bkU, List.range_succ]
theorem bkU_length (m k : Nat) : (bkU m k).length = k := by simp [bkU]
/-- two blocks lie as they lay -/
def Keep2 (a b : Nat) (W W' : World) : Prop := W'.heap[a]? = W.heap[a]? ∧ W'.heap[b]? = W.heap[b]?
theorem Keep2.refl (a b : Nat) (W : World) : Keep2 a b W W := ⟨rfl, rfl⟩
theorem Keep2.trans {a b : Nat} {A B C : World} (h : Keep2 a b A B) (k : Keep2 a b B C) : Keep2 a b A C := ⟨k.1.trans h.1, k.2.trans h.2⟩
theorem Keep2.fst {a b : Nat} {A B : World} (h : Keep2 a b A B) {o : Nat} {v : Value} (hc : A.cell? ⟨a, o, none⟩ = some v) : B.cell? ⟨a, o, none⟩ = some v := (World.cell?_of_block (w := A) (a := ⟨a, o, none⟩) h.1).trans hc
theorem Keep2.snd {a b : Nat} {A B : World} (h : Keep2 a b A B) {o : Nat} {v : Value} (hc : A.cell? ⟨b, o, none⟩ = some v) : B.cell? ⟨b, o, none⟩ = some v := (World.cell?_of_block (w := A) (a := ⟨b, o, none⟩) h.2).trans hc
theorem Keep2.put {w : World} {a b : Nat} (ha : a < w.heap.size) (hb : b < w.heap.size) (W : World) (l : Nat) (o o' : Obj) (hl : w.heap.size ≤ l) (h1 : W.heap[l]? = some o) (h2 : o.isCells = false) (h3 : o.isWalk = false) : Keep2 a b W (W.putObj l o') :=
  ⟨World.putObj_heap_other (by omega), World.putObj_heap_other (by omega)⟩
theorem grownBy_drew' (w : World) (row : Option Nat) : w.grownBy w.drew row := ⟨rfl, rfl, rfl, Nat.le_refl _, fun _ _ _ => rfl⟩
/-- what a round gets -/
def bkArgs (e m : Nat) (Q : PS) (x : Bk m) : Array Value := #[.int .i64 (x.1 : Int), .agg #[.int .i64 ((Q.getD x.1 dPS).1 : Int), .int .i64 ((Q.getD x.1 dPS).2 : Int), .int .i64 (e : Int)]]
set_option maxRecDepth 100000 in
set_option maxHeartbeats 2000000 in
theorem back1_in (l Bs b off m cap e : Nat) (Q : PS) (hm : m < Q.length) (hlen : Q.length ≤ 100) (hcap : m + 1 ≤ cap) (hcap2 : cap ≤ 9223372036854775807) (J Jx : List (Bk m) → World → Prop)
    (hY : ∀ pre x W, J pre W → pre.length < m + 1 → YieldAt Fence.wide 4 Try.prog l (bkArgs e m Q x) W fun o W' =>
      (o = .returned (.bool true) ∧ J (pre ++ [x]) W' ∧ Keep2 Bs b W W') ∨ (o = .returned (.bool false) ∧ Jx (pre ++ [x]) W'))
    (W : World) (hcs : W.cell? ⟨Bs, 0, none⟩ = some (.slice (some ⟨b, off, none⟩) (m + 1 : Nat) cap))
    (hcc : ∀ j, j ≤ m → W.cell? ⟨b, off + j * 3, none⟩ = some (.int .i64 ((Q.getD j dPS).1 : Int)) ∧ W.cell? ⟨b, off + j * 3 + 1, none⟩ = some (.int .i64 ((Q.getD j dPS).2 : Int)) ∧ W.cell? ⟨b, off + j * 3 + 2, none⟩ = some (.int .i64 (e : Int))) (h0 : J [] W) :
    CallsIn Fence.wide 5 Try.prog 40 #[.func (.yield l) #[] #[], .pointer (some ⟨Bs, 0, none⟩)] W fun o W' => (∃ v, o = .returned v) ∧
      ((∃ ys, ys = bkU m (m + 1) ∧ J ys W') ∨ (∃ pre, True ∧ Jx pre W')) := by
  refine callsIn_of_wp Try.func40 rfl trivial ?_ rfl
  simp only [Try.ntmps40, List.size_toArray, List.length_cons, List.length_nil, Nat.reduceAdd, Nat.reduceSub, Array.replicate_succ, Array.replicate_zero, List.push_toArray, List.append_toArray, List.nil_append, List.cons_append]
  have hm1 : IntKind.i64.wrap (((m + 1 : Nat) : Int) - 1) = (m : Int) := by rw [IntWalk.i64_in _ (by omega)]; omega
  gi_wp2
  gi_loopw [3] (fun i wr => ∃ k : Nat, k ≤ m + 1 ∧ i = .int .i64 ((m : Int) - (k : Int)) ∧ J (bkU m k) wr ∧ Keep2 Bs b W wr)
    (fun i _ => (intOf i + 1).toNat)
  case atStart => exact ⟨0, by omega, by simp, h0, Keep2.refl _ _ _⟩
  case round =>
    clear hm1
    obtain ⟨k, hk, rfl, hJs, hnx⟩ := hrel
    by_cases hlt : k ≤ m
    · obtain ⟨j, hj⟩ : ∃ j, j + k = m := ⟨m - k, by omega⟩
      have hje : (m : Int) - (k : Int) = (j : Int) := by omega
      rw [hje]
      obtain ⟨q0, q1, q2⟩ := hcc j (by omega)
      have q0 := hnx.snd q0
      have q1 := hnx.snd q1
      have q2 := hnx.snd q2
      have c1 := hnx.fst hcs
      have lb : b < wr.heap.size := lt_of_cell q0
      obtain ⟨fn, tmps, assign, body, hy, hR⟩ := hY _ (bkAt m k) wr hJs (by rw [bkU_length]; omega)
      unfold bkArgs at hy
      rw [show (bkAt m k).1 = j from (by show m - k = j; omega)] at hy
      obtain ⟨sk, hsk⟩ : ∃ s, Q.getD j dPS = s := ⟨_, rfl⟩
      rw [hsk] at q0 q1 hy
      clear hsk
      have Hje := Lib.hid (And.intro hj hje)
      have Hk := Lib.hid hk
      have hj0 : (0 : Int) ≤ (j : Int) := by omega
      have hj1 : (j : Int) < (m : Int) + 1 := by omega
      have hj2 : j ≤ 100 := by omega
      have hjm : j < m + 1 := by omega
      clear hj hje hk hlt
      gi_wp2
      refine hR.mono ?_
      rintro o W3 (⟨rfl, hJ3, hk3⟩ | ⟨rfl, hJx3⟩)
      · have c3 := hk3.fst c1
        gi_wp2
        go_roundw
        case rel =>
          have h1 := Hje.out.1
          exact ⟨k + 1, by omega, by congr 1; omega, by rw [bkU_succ]; exact hJ3, Keep2.trans hnx hk3⟩
        case measure => simp only [intOf]; omega
      · gi_wp2
        refine bodyPost_ret (results_none rfl _ _ _) rfl ?_
        exact ⟨⟨_, rfl⟩, .inr ⟨_, trivial, hJx3⟩⟩
    · obtain rfl : k = m + 1 := by omega
      have hje : (m : Int) - ((m + 1 : Nat) : Int) = -1 := by omega
      rw [hje]
      gi_wp2
      go_end0
      exact ⟨⟨_, rfl⟩, .inl ⟨_, rfl, hJs⟩⟩
set_option maxHeartbeats 1000000 in
theorem back_in (a : Option Addr) (len cap : Nat) (w : World) :
    CallsIn Fence.wide 5 Try.prog 28 #[.slice a len cap] w fun o w' => o = .returned (.func (.func 40) #[] #[.pointer (some ⟨w.heap.size, 0, none⟩)]) ∧ w' = w.alloc (.cells #[.slice a len cap] 41) := by
  refine callsIn_of_wp Try.func28 rfl trivial ?_ rfl
  simp only [Try.ntmps28, List.size_toArray, List.length_cons, List.length_nil, Nat.reduceAdd, Nat.reduceSub, Array.replicate_succ, Array.replicate_zero, List.push_toArray, List.append_toArray, List.nil_append, List.cons_append]
  gi_wp2
  go_ret
  exact ⟨rfl, rfl⟩
theorem back_stops (Bs b off m cap e : Nat) (Q : PS) (hm : m < Q.length) (hlen : Q.length ≤ 100) (hcap : m + 1 ≤ cap) (hcap2 : cap ≤ 9223372036854775807) (w : World) (hBs : Bs < w.heap.size) (hb : b < w.heap.size)
    (hcs : w.cell? ⟨Bs, 0, none⟩ = some (.slice (some ⟨b, off, none⟩) (m + 1 : Nat) cap))
    (hcc : ∀ j, j ≤ m → w.cell? ⟨b, off + j * 3, none⟩ = some (.int .i64 ((Q.getD j dPS).1 : Int)) ∧ w.cell? ⟨b, off + j * 3 + 1, none⟩ = some (.int .i64 ((Q.getD j dPS).2 : Int)) ∧ w.cell? ⟨b, off + j * 3 + 2, none⟩ = some (.int .i64 (e : Int))) :
    SeqStopsK Fence.wide 5 Try.prog 40 #[.pointer (some ⟨Bs, 0, none⟩)] (bkArgs e m Q) (Keep2 Bs b)
      (fun ys => ys = bkU m (m + 1)) (fun _ => True) (m + 1) w := fun l J Jx W hW hJ _ hY h0 =>
  back1_in l Bs b off m cap e Q hm hlen hcap hcap2 J Jx hY W ((hW.cell (p := ⟨Bs, 0, none⟩) hBs).trans hcs) (fun j hj => by
    obtain ⟨h1, h2, h3⟩ := hcc j hj
    exact ⟨(hW.cell (p := ⟨b, off + j * 3, none⟩) hb).trans h1, (hW.cell (p := ⟨b, off + j * 3 + 1, none⟩) hb).trans h2, (hW.cell (p := ⟨b, off + j * 3 + 2, none⟩) hb).trans h3⟩) h0
end Go.Proofs.Ytaciceaipmclgaa
