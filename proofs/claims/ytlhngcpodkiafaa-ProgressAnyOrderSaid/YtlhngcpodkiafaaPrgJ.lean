/- The assembler's Add: a chunk that is there already. -/
import Derived.Test.YtlhngcpodkiafaaPrgI
namespace Go.Proofs.Ytlhngcpodkiafaa
open Go.RowKit Go.ChangeMaps
set_option linter.unusedVariables false
/-- looking a chunk up -/
theorem AsAt.look2 {w : World} {pa bo bi : Nat} {tok : Int} {es : List CE} (h : AsAt w pa bo tok (some (bi, es))) {q : Int} (hq : In64 q) (c : Bool) :
    (Instr.lookup 53 (.map (some bi)) (.int .i64 q) c).run Try.prog w = .ok (if c then .tuple #[((aget es q).map (CQ.val tok q)).getD czero, .bool (aget es q).isSome] else ((aget es q).map (CQ.val tok q)).getD czero) w := by
  have := h.2.2.1.lookup ikeyed ik_inj Try.underlying53 (x := q) (ikOk hq) (chunk_zero w) c
  rw [aget_cvals] at this
  rw [Option.isSome_map] at this
  exact this
theorem intsC_alloc {w : World} {v : Value} {xs : List Int} (h : IntsC w v xs) (o : Obj) : IntsC (w.alloc o) v xs := h.same ((Chg.refl [] w).alloc o)
set_option maxRecDepth 100000 in
set_option maxHeartbeats 2000000 in
theorem add_again (pa bo bi : Nat) (tok q : Int) (es : List CE) (c : CQ) (la : Bool) (a : Option Addr) (n cap : Nat) (xs : List Int) (w : World) (h : AsAt w pa bo tok (some (bi, es))) (ht0 : 0 ≤ tok) (ht : tok ≤ 9223372036854775807) (hq0 : 0 ≤ q) (hq1 : q < 1000)
    (hc : aget es q = some c) (hla : c.last = la) (hxs : c.xs = xs) (hI : IntsC w (.slice a n cap) xs) (hn : n ≤ 1000) :
    Calls Try.prog 11 #[.pointer (some ⟨pa, 0, none⟩), .agg #[.int .i64 tok, .int .i64 q, .bool la, .slice a n cap]] w fun e w' => e = .returned (.tuple #[.bool false, .int .i64 0]) ∧ Chg [] w w' := by
  have hmem : (q, c) ∈ es := aget_mem hc
  have hci := (h.2.2.2.2 _ hmem)
  have l1 : ∀ w', Chg [] w w' → (Instr.lookup 48 (.map (some bo)) (.int .i64 tok) false).run Try.prog w' = .ok (.map (some bi)) w' := fun w' hc => (h.same hc).look ⟨by omega, ht⟩
  have l2 : ∀ w', Chg [] w w' → (Instr.lookup 53 (.map (some bi)) (.int .i64 q) true).run Try.prog w' = .ok (.tuple #[c.val tok q, .bool true]) w' := fun w' hc' => by
    have := (h.same hc').look2 (q := q) ⟨by omega, by omega⟩ true
    rw [hc] at this
    exact this
  have c0 : w.cell? ⟨pa, 0, none⟩ = some (.map (some bo)) := cell_of_heap h.blk rfl
  have hpa := lt_of_cell c0
  obtain ⟨cl, ca, cc, cx⟩ := c
  simp only at hla hxs hci
  subst hla hxs
  unfold CQ.val at l2
  simp only at l2
  have m1 := fun o1 => l1 _ ((Chg.refl [] w).alloc o1).drew
  have m2 := fun o1 o2 => l1 _ (((Chg.refl [] w).alloc o1).alloc o2).drew
  have m3 := fun o1 => l2 _ ((Chg.refl [] w).alloc o1).drew
  have m4 := fun o1 o2 => l2 _ (((Chg.refl [] w).alloc o1).alloc o2).drew
  have HI := Lib.hid hI
  have Hci := Lib.hid hci
  clear l1 l2 h hmem hc hI hci
  have hpa' : pa < w.heap.size + 1 := Nat.lt_succ_of_lt hpa
  go_enter Try.func11, Try.ntmps11
  go_wp2
  go_region
  go_wp2_with fail
  refine (slicesEqualC _ _ _ cx cx (Hci.out.c.same (by exact (((Chg.refl [] w).alloc _).alloc _).drew)) (HI.out.same (by exact (((Chg.refl [] w).alloc _).alloc _).drew))).mono ?_
  rintro e w' ⟨k, rfl, rfl⟩
  have hd : decide (cx = cx) = true := by simp
  rw [hd]
  go_wp2
  go_ret2
  exact ⟨rfl, (((Chg.refl [] w).alloc _).alloc _).drewN _⟩
end Go.Proofs.Ytlhngcpodkiafaa
