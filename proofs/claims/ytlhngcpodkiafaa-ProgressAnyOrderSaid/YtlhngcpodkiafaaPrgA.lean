/- slices.Chunk of ints: the iterator's contract. -/
import Derived.RangeFuncNested
import Derived.RangeFuncBox
import Derived.RangeFuncBound
import Derived.RangeFuncCalls
import Derived.RangeFuncLeaves
import Derived.Shelf.Abstract
import Derived.Shelf.RegionOpen
import Derived.OwnWalkIn
import Derived.TacticsInMore
import Derived.LoopNIn
import Derived.LoopIn
import Derived.BigRegionIn
import Derived.Test.YtlhngcpodkiafaaBase
import Derived.Test.YtlhngcpodkiafaaRows
namespace Go.Proofs.Ytlhngcpodkiafaa
open Go.RowKit Go.Shelf
set_option linter.unusedVariables false
attribute [local go_sem] Oper.semAt_some
/-- a chunk: where it begins, how many it holds -/
abbrev Ck (n : Nat) : Type := { x : Nat × Nat // x.1 + x.2 ≤ n }
def ckAt (n s q : Nat) : Ck n := ⟨(min (q * s) n, min s (n - q * s)), by show min (q * s) n + min s (n - q * s) ≤ n; omega⟩
/-- the chunks that have come when k rounds are over -/
def chU (n s k : Nat) : List (Ck n) := (List.range k).map (ckAt n s)
theorem chU_succ (n s k : Nat) : chU n s (k + 1) = chU n s k ++ [ckAt n s k] := by simp [chU, List.range_succ]
theorem chU_length (n s k : Nat) : (chU n s k).length = k := by simp [chU]
/-- two blocks lie as they lay -/
def Keep2 (a b : Nat) (W W' : World) : Prop := W'.heap[a]? = W.heap[a]? ∧ W'.heap[b]? = W.heap[b]?
theorem Keep2.refl (a b : Nat) (W : World) : Keep2 a b W W := ⟨rfl, rfl⟩
theorem Keep2.trans {a b : Nat} {A B C : World} (h : Keep2 a b A B) (k : Keep2 a b B C) : Keep2 a b A C := ⟨k.1.trans h.1, k.2.trans h.2⟩
theorem Keep2.fst {a b : Nat} {A B : World} (h : Keep2 a b A B) {v : Value} (hc : A.cell? ⟨a, 0, none⟩ = some v) : B.cell? ⟨a, 0, none⟩ = some v := (World.cell?_of_block (w := A) (a := ⟨a, 0, none⟩) h.1).trans hc
theorem Keep2.snd {a b : Nat} {A B : World} (h : Keep2 a b A B) {v : Value} (hc : A.cell? ⟨b, 0, none⟩ = some v) : B.cell? ⟨b, 0, none⟩ = some v := (World.cell?_of_block (w := A) (a := ⟨b, 0, none⟩) h.2).trans hc
theorem Keep2.put {w : World} {a b : Nat} (ha : a < w.heap.size) (hb : b < w.heap.size) (W : World) (l : Nat) (o o' : Obj) (hl : w.heap.size ≤ l) (h1 : W.heap[l]? = some o) (h2 : o.isCells = false) (h3 : o.isWalk = false) : Keep2 a b W (W.putObj l o') :=
  ⟨World.putObj_heap_other (by omega), World.putObj_heap_other (by omega)⟩
set_option maxRecDepth 100000 in
set_option maxHeartbeats 2000000 in
theorem chunk1_in (l Bs Bn b off len cap s : Nat) (hs : 1 ≤ s) (hs2 : s ≤ 2147483647) (hlen : len ≤ 1000000) (hcap : len ≤ cap) (hcap2 : cap ≤ 9223372036854775807) (J Jx : List (Ck len) → World → Prop) (hJd : ∀ pre W, J pre W → J pre W.drew)
    (hY : ∀ pre x W, J pre W → pre.length < len → YieldAt Fence.wide 4 Try.prog l #[.slice (some ⟨b, off + x.1.1, none⟩) (x.1.2 : Nat) (x.1.2 : Nat)] W fun e W' =>
      (e = .returned (.bool true) ∧ J (pre ++ [x]) W' ∧ Keep2 Bs Bn W W') ∨ (e = .returned (.bool false) ∧ Jx (pre ++ [x]) W'))
    (W : World) (hcs : W.cell? ⟨Bs, 0, none⟩ = some (.slice (some ⟨b, off, none⟩) len cap)) (hcn : W.cell? ⟨Bn, 0, none⟩ = some (.int .i64 s)) (h0 : J [] W) :
    CallsIn Fence.wide 5 Try.prog 19 #[.func (.yield l) #[] #[], .pointer (some ⟨Bs, 0, none⟩), .pointer (some ⟨Bn, 0, none⟩)] W fun e W' => (∃ v, e = .returned v) ∧
      ((∃ ys, (∃ k, ys = chU len s k ∧ len ≤ k * s ∧ k * s < len + s) ∧ J ys W') ∨ (∃ pre, True ∧ Jx pre W')) := by
  refine callsIn_of_wp Try.func19 rfl trivial ?_ rfl
  simp only [Try.ntmps19, List.size_toArray, List.length_cons, List.length_nil, Nat.reduceAdd, Nat.reduceSub, Array.replicate_succ, Array.replicate_zero, List.push_toArray, List.append_toArray, List.nil_append, List.cons_append]
  gi_wp2
  gi_loopw [4] (fun i wr => ∃ k j : Nat, Hid (j = k * s) ∧ j < len + s ∧ i = .int .i64 (j : Nat) ∧ J (chU len s k) wr ∧ Keep2 Bs Bn W wr)
    (fun i _ => len + s - (intOf i).toNat)
  case atStart => exact ⟨0, 0, Lib.hid (by omega), by omega, rfl, h0, Keep2.refl _ _ _⟩
  case round =>
    obtain ⟨k, j, Hj, hj, rfl, hJs, hnx⟩ := hrel
    have c1 := hnx.fst hcs
    have c2 := hnx.snd hcn
    by_cases hlt : j < len
    · have hkl : k < len := by
        have := Nat.le_mul_of_pos_right k hs
        have := Hj.out
        omega
      have hi0 : (0 : Int) ≤ (j : Int) := by omega
      have hi1 : (j : Int) ≤ (len : Int) := by omega
      have hi2 : (j : Int) < (len : Int) := by omega
      by_cases hle : s ≤ len - j
      · have hmn : min s (len - j) = s := by omega
        obtain ⟨ck, hck⟩ : ∃ ck : Ck len, ck.1 = (j, s) := ⟨⟨(j, s), by show j + (s) ≤ len; omega⟩, rfl⟩
        obtain ⟨fn, tmps, assign, body, hy, hR⟩ := hY _ ck wr.drew (hJd _ _ hJs) (by rw [chU_length]; exact hkl)
        have hsu : chU len s (k + 1) = chU len s k ++ [ck] := by
          rw [chU_succ]
          congr 2
          apply Subtype.ext
          rw [hck]
          show (min (k * s) len, min s (len - k * s)) = _
          rw [← Hj.out, hmn, Nat.min_eq_left (by omega)]
        rw [hck] at hy
        dsimp only at hy
        clear hck
        have Hsu := Lib.hid hsu
        clear hsu hmn
        gi_wp2
        gi_region
        gi_wp2
        refine hR.mono ?_
        rintro e W3 (⟨rfl, hJ3, hk3⟩ | ⟨rfl, hJx3⟩)
        · have c3 := hk3.snd c2
          gi_wp2
          go_roundw
          case rel => exact ⟨k + 1, j + s, Lib.hid (by rw [Hj.out, Nat.succ_mul]), by omega, by go_num, by rw [Hsu.out]; exact hJ3, Keep2.trans hnx hk3⟩
          case measure => simp [intOf]; omega
        · gi_wp2
          refine bodyPost_ret (results_none rfl _ _ _) rfl ?_
          exact ⟨⟨_, rfl⟩, .inr ⟨_, trivial, hJx3⟩⟩
      · have hmn : min s (len - j) = len - j := by omega
        obtain ⟨ck, hck⟩ : ∃ ck : Ck len, ck.1 = (j, len - j) := ⟨⟨(j, len - j), by show j + (len - j) ≤ len; omega⟩, rfl⟩
        obtain ⟨fn, tmps, assign, body, hy, hR⟩ := hY _ ck wr.drew (hJd _ _ hJs) (by rw [chU_length]; exact hkl)
        have hsu : chU len s (k + 1) = chU len s k ++ [ck] := by
          rw [chU_succ]
          congr 2
          apply Subtype.ext
          rw [hck]
          show (min (k * s) len, min s (len - k * s)) = _
          rw [← Hj.out, hmn, Nat.min_eq_left (by omega)]
        rw [hck] at hy
        dsimp only at hy
        clear hck
        have Hsu := Lib.hid hsu
        clear hsu hmn
        have hle' : len - j < s := by omega
        clear hle
        gi_wp2
        gi_region
        gi_wp2
        refine hR.mono ?_
        rintro e W3 (⟨rfl, hJ3, hk3⟩ | ⟨rfl, hJx3⟩)
        · have c3 := hk3.snd c2
          gi_wp2
          go_roundw
          case rel => exact ⟨k + 1, j + s, Lib.hid (by rw [Hj.out, Nat.succ_mul]), by omega, by go_num, by rw [Hsu.out]; exact hJ3, Keep2.trans hnx hk3⟩
          case measure => simp [intOf]; omega
        · gi_wp2
          refine bodyPost_ret (results_none rfl _ _ _) rfl ?_
          exact ⟨⟨_, rfl⟩, .inr ⟨_, trivial, hJx3⟩⟩
    · gi_wp2
      go_end0
      have hj2 : j = k * s := Hj.out
      exact ⟨⟨_, rfl⟩, .inl ⟨_, ⟨k, rfl, by omega, by omega⟩, hJs⟩⟩
set_option maxHeartbeats 1000000 in
theorem chunk_in (a : Option Addr) (len cap s : Nat) (w : World) (hs : 1 ≤ s) :
    CallsIn Fence.wide 5 Try.prog 15 #[.slice a len cap, .int .i64 s] w fun e w' => e = .returned (.func (.func 19) #[] #[.pointer (some ⟨w.heap.size, 0, none⟩), .pointer (some ⟨w.heap.size + 1, 0, none⟩)]) ∧ w' = (w.alloc (.cells #[.slice a len cap] 22)).alloc (.cells #[.int .i64 s] 3) := by
  refine callsIn_of_wp Try.func15 rfl trivial ?_ rfl
  simp only [Try.ntmps15, List.size_toArray, List.length_cons, List.length_nil, Nat.reduceAdd, Nat.reduceSub, Array.replicate_succ, Array.replicate_zero, List.push_toArray, List.append_toArray, List.nil_append, List.cons_append]
  have h1 : (1 : Int) ≤ (s : Int) := by omega
  gi_wp2
  go_ret
  exact ⟨rfl, rfl⟩
theorem grownBy_drew' (w : World) (row : Option Nat) : w.grownBy w.drew row := ⟨rfl, rfl, rfl, Nat.le_refl _, fun _ _ _ => rfl⟩
theorem chunk_stops (Bs Bn b off len cap s : Nat) (hs : 1 ≤ s) (hs2 : s ≤ 2147483647) (hlen : len ≤ 1000000) (hcap : len ≤ cap) (hcap2 : cap ≤ 9223372036854775807) (w : World) (hBs : Bs < w.heap.size) (hBn : Bn < w.heap.size)
    (hcs : w.cell? ⟨Bs, 0, none⟩ = some (.slice (some ⟨b, off, none⟩) len cap)) (hcn : w.cell? ⟨Bn, 0, none⟩ = some (.int .i64 s)) :
    SeqStopsK Fence.wide 5 Try.prog 19 #[.pointer (some ⟨Bs, 0, none⟩), .pointer (some ⟨Bn, 0, none⟩)] (fun x : Ck len => #[.slice (some ⟨b, off + x.1.1, none⟩) (x.1.2 : Nat) (x.1.2 : Nat)]) (Keep2 Bs Bn)
      (fun ys => ∃ k, ys = chU len s k ∧ len ≤ k * s ∧ k * s < len + s) (fun _ => True) len w := fun l J Jx W hW hJ _ hY h0 =>
  chunk1_in l Bs Bn b off len cap s hs hs2 hlen hcap hcap2 J Jx (fun pre W h => hJ pre W _ none h (grownBy_drew' W none) (by simp)) hY W ((hW.cell (p := ⟨Bs, 0, none⟩) hBs).trans hcs) ((hW.cell (p := ⟨Bn, 0, none⟩) hBn).trans hcn) h0
end Go.Proofs.Ytlhngcpodkiafaa
