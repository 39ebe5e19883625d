/- MemoDependencies: the law's walk. -/
import Derived.Test.YtdeodcomlakpaaaGn
import Derived.Test.YtdeodcomlakpaaaNv
namespace Go.Proofs.Ytdeodcomlakpaaa
open Go.RowKit Go.ChangeMaps Go.MapKept
set_option linter.unusedVariables false
set_option linter.unusedSimpArgs false
set_option maxRecDepth 100000 in
set_option maxHeartbeats 16000000 in
theorem dependenciesLaw_any (p0 : Nat → Prop) (w : World) (inp : Int) (qs : List (List QO)) (ss : List I3) (q : Int) (qv sv : Value) (hq : I3ss p0 w qv qs) (hs : I3s p0 w sv ss) (hp0 : ∀ k, p0 k → k < w.heap.size) :
    Calls Try.prog 11 #[.agg #[.int .i64 inp, qv], sv, .int .i64 q] w fun e w' => e = .returned (.bool true) ∧ Chg [] w w' := by
  obtain ⟨av, capv, rfl, hlm, hlc⟩ := hq.shape
  have Hq := Lib.hid hq
  have Hs := Lib.hid hs
  have Hp0 := Lib.hid hp0
  have hc0 : Chg [] w (w.alloc (.cells #[.int .i64 inp, .slice av qs.length capv] 42)) := (Chg.refl [] w).alloc _
  have Hc0 := Lib.hid hc0
  clear hq hs hp0 hc0
  unfold maxLen at hlm
  go_enter Try.func11, Try.ntmps11
  go_wp2_with fail
  refine (memoExample_any _).mono ?_
  rintro e w1 ⟨rfl, c1⟩
  have m0 : w1.cell? ⟨w.heap.size, 0, none⟩ = some (.int .i64 inp) := (c1.cell (p := ⟨w.heap.size, 0, none⟩) (by simp) (by simp)).trans (cell_of_heap (heap_at _ _ _ rfl) rfl)
  have m1 : w1.cell? ⟨w.heap.size, 1, none⟩ = some (.slice av qs.length capv) := (c1.cell (p := ⟨w.heap.size, 1, none⟩) (by simp) (by simp)).trans (cell_of_heap (heap_at _ _ _ rfl) rfl)
  have lm := lt_of_cell m0
  have Hc1 := Lib.hid (Hc0.out.trans c1)
  clear c1
  go_wp2_with fail
  refine (usable_any (fun g => g < w1.heap.size) _ inp qs _ (Hq.out.old Hp0.out Hc1.out)).mono ?_
  rintro e w2 ⟨b, rfl, hb, c2⟩
  have n0 := (c2.cell (p := ⟨w.heap.size, 0, none⟩) lm (by simp)).trans m0
  have n1 := (c2.cell (p := ⟨w.heap.size, 1, none⟩) lm (by simp)).trans m1
  have ln := lt_of_cell n0
  have Hc2 := Lib.hid (Hc1.out.trans c2)
  clear c2 m0 m1 lm
  cases b with
  | false =>
    clear hb
    go_wp2_with fail
    refine (memoExample_any _).mono ?_
    rintro e w3 ⟨rfl, c3⟩
    go_wp2
    go_ret
    exact ⟨rfl, Hc2.out.trans c3⟩
  | true =>
    obtain ⟨hok, hl0, hi0⟩ := hb.1 rfl
    clear hb
    obtain ⟨N, rfl⟩ := Int.eq_ofNat_of_zero_le hok.inp.1
    have hN := hok.inp.2
    have hL := hok.size
    simp only at hN hL
    obtain ⟨qn, hqn, hmq⟩ := modN q qs.length (by omega) (by omega)
    have Hmq := Lib.hid hmq
    have Hok := Lib.hid hok
    have Hst := Lib.hid (started_any hok w2 hl0 (by omega) _ _ ss (Hq.out.old Hp0.out Hc2.out) (I3s.imp (I3s.kept (S := fun _ => False) Hs.out Hc2.out.p (fun _ _ h => h)) fun g hg => Nat.lt_of_lt_of_le (Hp0.out g hg) Hc2.out.size))
    clear hmq hok
    go_wp2_with fail
    refine Hst.out.mono ?_
    rintro e w3 ⟨b, gi, d, ins, rfl, hM, hR⟩
    have hil : ins.length = N := by have h : (ins.length : Int) = (N : Int) := hM.len; omega
    rw [hil]
    have Hil := Lib.hid hil
    have Hn := Lib.hid (And.intro ln (And.intro n0 n1))
    have r0 := (hM.db.chg.cell (p := ⟨w.heap.size, 0, none⟩) Hn.out.1 (by simp)).trans Hn.out.2.1
    have r1 := (hM.db.chg.cell (p := ⟨w.heap.size, 1, none⟩) Hn.out.1 (by simp)).trans Hn.out.2.2
    have lr := lt_of_cell r0
    have HM := Lib.hid hM
    have HR := Lib.hid hR
    clear hM hR hil n0 n1 ln Hst
    go_wp2_with fail
    refine (Hmq.out _).mono ?_
    rintro e w' ⟨rfl, rfl⟩
    clear Hmq
    go_wp2_with fail
    refine (queryKey_any _ _).mono ?_
    rintro e w4 ⟨rfl, c4⟩
    have HM4 := Lib.hid (HM.out.new c4)
    clear c4 r0 r1 lr
    go_wp2_with fail
    refine (HM4.out.get Hok.out HR.out (by omega) hqn).mono ?_
    rintro e w5 ⟨d5, a5, c5, r5, rfl, hi5, hM5, hR5, hf5, ha5⟩
    obtain ⟨w6, hw6⟩ : ∃ x, x = w5.alloc (.cells #[.slice a5 1 c5, .string ⟨#[]⟩] 31) := ⟨_, rfl⟩
    have c6 : Chg [] w5 w6 := by rw [hw6]; exact (Chg.refl [] w5).alloc _
    have HM6 := Lib.hid (hM5.new c6)
    have Hf6 := Lib.hid hf5
    have r0 := (hM5.db.chg.cell (p := ⟨w.heap.size, 0, none⟩) Hn.out.1 (by simp)).trans Hn.out.2.1
    have r1 := (hM5.db.chg.cell (p := ⟨w.heap.size, 1, none⟩) Hn.out.1 (by simp)).trans Hn.out.2.2
    have lr := lt_of_cell r0
    clear hi5 hM5 hR5 hf5 ha5 c6
    go_wp2_with fail
    rw [← hw6]
    clear hw6
    have hqs6 := Hq.out.old Hp0.out (Hc2.out.trans HM6.out.db.chg)
    have hin6 := HM6.out.ints Hok.out
    rw [Hil.out] at hin6
    refine (reads_any (fun g => g < w6.heap.size) _ ⟨N, qs⟩ ins qn _ _ hqs6 hin6 (fun k hk => hk)).mono ?_
    rintro e w7 ⟨h7 | h7, c7⟩
    · obtain ⟨_, v7, rfl, hk7⟩ := h7
      have HM7 := Lib.hid (HM6.out.new c7)
      have Hk7 := Lib.hid hk7
      clear hqs6 hin6 c7 r0 r1 lr hk7
      go_wp2_with fail
      refine (queryKey_any _ _).mono ?_
      rintro e w8 ⟨rfl, c8⟩
      have HM8 := Lib.hid (HM7.out.new c8)
      have Hk8 := Lib.hid (I3s.kept (S := fun _ => False) Hk7.out c8.p (fun _ _ h => h))
      clear c8
      go_wp2_with fail
      refine (dependencies_any _ b d5 (1, (qn : Int), 0) HM8.out.db.mem (qryKok (qk_lt hqn) Hok.out.size) (fun r hr => ?_)).mono ?_
      · have hw := HM8.out.db.inv.es _ r hr
        have := keys_few (inp := (N : Int)) (L := qn) (by omega) (by omega) hw.2.2.2 hw.2.2.1
        omega
      rintro e w9 ⟨v9, rfl, c9, hm9⟩
      rw [Hf6.out.get] at hm9 ⊢
      simp only [Option.isSome_some, Hf6.out.deps] at hm9 ⊢
      have HM9 := Lib.hid (HM8.out.new c9)
      have Hk9 := Lib.hid (I3s.kept (S := fun _ => False) Hk8.out c9.p (fun _ _ h => h))
      have Hm9 := Lib.hid hm9
      clear c9 hm9
      go_wp2_with fail
      refine (memoExample_any _).mono ?_
      rintro e w10 ⟨rfl, c10⟩
      have HM10 := Lib.hid (HM9.out.new c10)
      have Hk10 := Lib.hid (I3s.kept (S := fun _ => False) Hk9.out c10.p (fun _ _ h => h))
      have Hm10 := Lib.hid (I3s.kept (S := fun _ => False) Hm9.out c10.p (fun _ _ h => h))
      clear c10
      go_wp2_with fail
      refine (equalKeys_any _ _ _ _ _ _ _ Hm10.out Hk10.out).mono ?_
      rintro e w11 ⟨rfl, c11⟩
      have HM11 := Lib.hid (HM10.out.new c11)
      clear c11
      simp only [Int.toNat_natCast, decide_true]
      go_wp2_with fail
      go_ret
      exact ⟨rfl, Hc2.out.trans HM11.out.db.chg⟩
    · exact absurd ⟨Hok.out, by rw [Hil.out], by omega, by simp only; omega⟩ h7.1

end Go.Proofs.Ytdeodcomlakpaaa
