/- EvictCapacity: the law's walk. -/
import Derived.Test.YtdeodcomlakpaaaNca
import Derived.Test.YtdeodcomlakpaaaNv
namespace Go.Proofs.Ytdeodcomlakpaaa
open Go.RowKit Go.ChangeMaps Go.MapKept
set_option linter.unusedVariables false
set_option linter.unusedSimpArgs false
theorem I3s.drop {p : Nat → Prop} {w : World} {a : Option Addr} {cap : Nat} {ks : List I3} (h : I3s p w (.slice a ks.length cap) ks) (m : Nat) (hm : m ≤ ks.length) : I3s p w (.slice (a.map fun x => x.add (m * 3)) (ks.length - m) (cap - m)) (ks.drop m) := by
  obtain ⟨a', cap', hv, h1, h2, h3⟩ := h
  simp only [Value.slice.injEq, true_and] at hv
  obtain ⟨rfl, rfl⟩ := hv
  refine ⟨_, _, by rw [List.length_drop], by rw [List.length_drop]; omega, by omega, fun h0 => ?_⟩
  rw [List.length_drop] at h0
  obtain ⟨g, off, rfl, hg, hc⟩ := h3 (by omega)
  refine ⟨g, off + m * 3, by rw [Option.map_some, Addr.add_lit], hg, fun j hj => ?_⟩
  rw [List.length_drop] at hj
  have := hc (m + j) (by omega)
  rw [List.getElem_drop, show off + m * 3 + j * 3 = off + (m + j) * 3 by omega]
  exact this
theorem I3s.none {p : Nat → Prop} {w : World} {a : Option Addr} {ks : List I3} (h : ks = []) : I3s p w (.slice a 0 0) ks := by
  subst h
  exact ⟨a, 0, rfl, by simp, by simp, fun h => absurd h (by simp)⟩
set_option maxRecDepth 100000 in
set_option maxHeartbeats 16000000 in
theorem capacityLaw_any (p0 : Nat → Prop) (w : World) (inp : Int) (qs : List (List QO)) (ss : List I3) (c0 q : Int) (qv sv : Value) (hq : I3ss p0 w qv qs) (hs : I3s p0 w sv ss) (hp0 : ∀ k, p0 k → k < w.heap.size) :
    Calls Try.prog 10 #[.agg #[.int .i64 inp, qv], sv, .int .i64 c0, .int .i64 q] w fun e w' => e = .returned (.bool true) ∧ Chg [] w w' := by
  obtain ⟨av, capv, rfl, hlm, hlc⟩ := hq.shape
  have Hq := Lib.hid hq
  have Hs := Lib.hid hs
  have Hp0 := Lib.hid hp0
  have hc0 : Chg [] w (w.alloc (.cells #[.int .i64 inp, .slice av qs.length capv] 42)) := (Chg.refl [] w).alloc _
  have Hc0 := Lib.hid hc0
  clear hq hs hp0 hc0
  unfold maxLen at hlm
  go_enter Try.func10, Try.ntmps10
  go_wp2_with fail
  refine (memoExample_any _).mono ?_
  rintro e w1 ⟨rfl, c1⟩
  have m0 : w1.cell? ⟨w.heap.size, 0, none⟩ = some (.int .i64 inp) := (c1.cell (p := ⟨w.heap.size, 0, none⟩) (by simp) (by simp)).trans (cell_of_heap (heap_at _ _ _ rfl) rfl)
  have m1 : w1.cell? ⟨w.heap.size, 1, none⟩ = some (.slice av qs.length capv) := (c1.cell (p := ⟨w.heap.size, 1, none⟩) (by simp) (by simp)).trans (cell_of_heap (heap_at _ _ _ rfl) rfl)
  have lm := lt_of_cell m0
  have Hc1 := Lib.hid (Hc0.out.trans c1)
  clear c1
  go_wp2_with fail
  refine (usable_any (fun g => g < w1.heap.size) _ inp qs _ (Hq.out.old Hp0.out Hc1.out)).mono ?_
  rintro e w2 ⟨b, rfl, hb, c2⟩
  have n0 := (c2.cell (p := ⟨w.heap.size, 0, none⟩) lm (by simp)).trans m0
  have n1 := (c2.cell (p := ⟨w.heap.size, 1, none⟩) lm (by simp)).trans m1
  have ln := lt_of_cell n0
  have Hc2 := Lib.hid (Hc1.out.trans c2)
  clear c2 m0 m1 lm
  cases b with
  | false =>
    clear hb
    go_wp2_with fail
    refine (memoExample_any _).mono ?_
    rintro e w3 ⟨rfl, c3⟩
    go_wp2
    go_ret
    exact ⟨rfl, Hc2.out.trans c3⟩
  | true =>
    obtain ⟨hok, hl0, hi0⟩ := hb.1 rfl
    clear hb
    obtain ⟨N, rfl⟩ := Int.eq_ofNat_of_zero_le hok.inp.1
    have hN := hok.inp.2
    have hL := hok.size
    simp only at hN hL
    obtain ⟨qn, hqn, hmq⟩ := modN q qs.length (by omega) (by omega)
    obtain ⟨cn, hcn, hmc⟩ := modN c0 6 (by omega) (by omega)
    have Hmc := Lib.hid (fun w => (hmc w).mono fun e w' ⟨h1, h2⟩ => And.intro h1 h2.symm)
    have Hmq := Lib.hid (fun w => (hmq w).mono fun e w' ⟨h1, h2⟩ => And.intro h1 h2.symm)
    clear hmc
    have Hok := Lib.hid hok
    have Hst := Lib.hid (started_any hok w2 hl0 (by omega) _ _ ss (Hq.out.old Hp0.out Hc2.out) (I3s.imp (I3s.kept (S := fun _ => False) Hs.out Hc2.out.p (fun _ _ h => h)) fun g hg => Nat.lt_of_lt_of_le (Hp0.out g hg) Hc2.out.size))
    clear hmq hok
    go_wp2_with fail
    refine Hst.out.mono ?_
    rintro e w3 ⟨b, gi, d, ins, rfl, hM, hR⟩
    have hil : ins.length = N := by have h : (ins.length : Int) = (N : Int) := hM.len; omega
    rw [hil]
    have Hil := Lib.hid hil
    have Hn := Lib.hid (And.intro ln (And.intro n0 n1))
    have r0 := (hM.db.chg.cell (p := ⟨w.heap.size, 0, none⟩) Hn.out.1 (by simp)).trans Hn.out.2.1
    have r1 := (hM.db.chg.cell (p := ⟨w.heap.size, 1, none⟩) Hn.out.1 (by simp)).trans Hn.out.2.2
    have lr := lt_of_cell r0
    have HM := Lib.hid hM
    have HR := Lib.hid hR
    clear hM hR hil n0 n1 ln Hst
    go_wp2_with fail
    go_quiet ((go_at_call 15; first | (with_reducible exact Calls.quiet_of_same (Hmc.out _)) | exact Calls.quiet_of_same (Hmq.out _)))
    go_wp2_with fail
    obtain ⟨w4, hw4⟩ : ∃ x, x = w3.drewN nq := ⟨_, rfl⟩
    have c4 : Chg [] w3 w4 := by rw [hw4]; exact (Chg.refl [] w3).drewN _
    rw [← hw4]
    clear hw4
    have HM4 := Lib.hid (HM.out.new c4)
    have r0 := (c4.cell (p := ⟨w.heap.size, 0, none⟩) lr (by simp)).trans r0
    have r1 := (c4.cell (p := ⟨w.heap.size, 1, none⟩) lr (by simp)).trans r1
    have lr := lt_of_cell r0
    clear c4
    refine (HM4.out.cached Hok.out HR.out (by omega)).mono ?_
    rintro e w5 ⟨v5, ks, rfl, hi5, hk5, c5, hl5⟩
    obtain ⟨a5, b5, rfl, hb5, hb5'⟩ := hi5.shape
    have r0 := (c5.cell (p := ⟨w.heap.size, 0, none⟩) lr (by simp)).trans r0
    have r1 := (c5.cell (p := ⟨w.heap.size, 1, none⟩) lr (by simp)).trans r1
    have lr := lt_of_cell r0
    have HM5 := Lib.hid (HM4.out.new c5)
    have Hi5 := Lib.hid hi5
    have Hk5 := Lib.hid hk5
    clear hi5 hk5 c5
    go_wp2_with fail
    refine (HM5.out.trim Hok.out HR.out (by omega) (cn : Int) (by omega) (by omega)).mono ?_
    rintro e w6 ⟨ks', d6, hk6, rfl, hM6, hR6, ha6, hkk6, _⟩
    obtain rfl := hk6.unique HR.out.us Hk5.out
    have hmb := trimN_bd (len := ks'.length) (capacity := cn) (by omega)
    obtain ⟨k2, hk2⟩ : ∃ k2 : Nat, trimN ks'.length cn = (ks'.length : Int) - (k2 : Int) := ⟨((ks'.length : Int) - trimN ks'.length cn).toNat, by omega⟩
    have hk2c : k2 ≤ cn := by
      have h : (ks'.length : Int) - cn ≤ trimN ks'.length cn := by unfold trimN; omega
      omega
    have hk2l : k2 ≤ ks'.length := by omega
    rw [hk2] at hkk6 ⊢
    rw [show ((ks'.length : Int) - (k2 : Int)).toNat = ks'.length - k2 by omega] at hkk6
    have hi6 : I3s (fun g => w4.heap.size ≤ g ∧ g < w5.heap.size) w6 (.slice a5 ks'.length b5) ks' := I3s.kept (S := fun x => x ∈ d.muts b) Hi5.out ha6.chg fun x hx hm => by have := HM4.out.db.mem.lt x hm; omega
    have lw : w.heap.size < w6.heap.size := Nat.lt_of_lt_of_le lr ha6.chg.size
    have Hn6 := Lib.hid (And.intro r0 r1)
    have HM6 := Lib.hid hM6
    have HR6 := Lib.hid hR6
    have Hi6 := Lib.hid hi6
    have Hk6 := Lib.hid hkk6
    have r0 := (hM6.db.chg.cell (p := ⟨w.heap.size, 0, none⟩) Hn.out.1 (by simp)).trans Hn.out.2.1
    have r1 := (hM6.db.chg.cell (p := ⟨w.heap.size, 1, none⟩) Hn.out.1 (by simp)).trans Hn.out.2.2
    have lr := lt_of_cell r0
    clear hmb hk2 hk6 hM6 hR6 ha6 hkk6 hi6 lw
    go_wp2_with fail
    refine (HM6.out.cached Hok.out HR6.out (by omega)).mono ?_
    rintro e w7 ⟨v7, ls, rfl, hi7, hk7, c7, hl7⟩
    obtain rfl := hk7.unique HR6.out.us Hk6.out
    obtain ⟨a7, b7, rfl, hb7, hb7'⟩ := hi7.shape
    have hll : (ks'.drop (ks'.length - k2)).length = k2 := by rw [List.length_drop]; omega
    have r0 := (c7.cell (p := ⟨w.heap.size, 0, none⟩) lr (by simp)).trans r0
    have r1 := (c7.cell (p := ⟨w.heap.size, 1, none⟩) lr (by simp)).trans r1
    have lr := lt_of_cell r0
    have HM7 := Lib.hid (HM6.out.new c7)
    have Hi7 := Lib.hid (And.intro (I3s.kept (S := fun _ => False) Hi6.out c7.p (fun _ _ h => h)) hi7)
    rw [hll] at hb7 hb7' ⊢
    have Hll := Lib.hid hll
    have hb0 : (k2 : Int) ≤ (ks'.length : Int) := by omega
    have hb1 : (0 : Int) ≤ (ks'.length : Int) - (k2 : Int) := by omega
    have hb2 : (ks'.length : Int) - (k2 : Int) ≤ (ks'.length : Int) := by omega
    clear hi7 hk7 c7 hll
    have hsub : ks'.length - (ks'.length - k2) = k2 := by omega
    have heq : ∀ vv, (vv = Value.slice a5 (ks'.length - (ks'.length - k2)) 0 ∧ b5 = ks'.length - k2 ∨ vv = Value.slice (Option.map (fun x => x.add ((ks'.length - k2) * 3)) a5) (ks'.length - (ks'.length - k2)) (b5 - (ks'.length - k2))) →
        Calls Try.prog 43 #[.slice a7 k2 b7, vv] w7 fun e w' => e = .returned (.bool true) ∧ Chg [] w7 w' := fun vv hv => by
      have h2 : I3s (fun g => w4.heap.size ≤ g ∧ g < w5.heap.size) w7 vv (ks'.drop (ks'.length - k2)) := by
        rcases hv with ⟨rfl, hb⟩ | rfl
        · have h0 : k2 = 0 := by omega
          rw [hsub]
          subst h0
          exact I3s.none (by simp)
        · exact I3s.drop Hi7.out.1 _ (by omega)
      have h1 := Hi7.out.2
      rw [Hll.out] at h1
      refine (equalKeys_any w7 _ _ _ _ _ _ h1 h2).mono ?_
      rintro e w' ⟨rfl, hc⟩
      exact ⟨by simp, hc⟩
    have Heq := Lib.hid heq
    clear heq hsub
    go_wp2_with fail
    all_goals
      first
        | (with_reducible refine (Heq.out _ (Or.inr rfl)).mono ?_)
        | (with_reducible refine (Heq.out _ (Or.inl ⟨rfl, by assumption⟩)).mono ?_)
      rintro e w8 ⟨rfl, c8⟩
      have HM8 := Lib.hid (HM7.out.new c8)
      clear c8 r0 r1 lr
      go_wp2_with fail
      refine (queryKey_any _ _).mono ?_
      rintro e w9 ⟨rfl, c9⟩
      have HM9 := Lib.hid (HM8.out.new c9)
      clear c9
      go_wp2_with fail
      refine (evictGet_any Hok.out HM9.out HR6.out (by omega) hqn (cn : Int) (by omega) (by omega)).mono ?_
      rintro e w10 ⟨d10, a10, c10, ls, rfl, hi10, hM10, hR10, ha10, hk10, hcl⟩
      obtain ⟨w11, hw11⟩ : ∃ x, x = w10.alloc (.cells #[.slice a10 1 c10, .string ⟨#[]⟩] 31) := ⟨_, rfl⟩
      have c11 : Chg [] w10 w11 := by rw [hw11]; exact (Chg.refl [] w10).alloc _
      have hv11 : w11.heap[w10.heap.size]? = some (.cells #[.slice a10 1 c10, .string ⟨#[]⟩] 31 (0, 0)) := by rw [hw11]; exact heap_at _ _ _ rfl
      have HM11 := Lib.hid (hM10.new c11)
      have Hi11 := Lib.hid (hi10.same c11)
      have HR11 := Lib.hid hR10
      have HK11 := Lib.hid hk10
      have r0 := (hM10.db.chg.cell (p := ⟨w.heap.size, 0, none⟩) Hn.out.1 (by simp)).trans Hn.out.2.1
      have r1 := (hM10.db.chg.cell (p := ⟨w.heap.size, 1, none⟩) Hn.out.1 (by simp)).trans Hn.out.2.2
      have lr := lt_of_cell r0
      have v0 : w11.cell? ⟨w10.heap.size, 0, none⟩ = some (.slice a10 1 c10) := cell_of_heap hv11 rfl
      have v1 : w11.cell? ⟨w10.heap.size, 1, none⟩ = some (.string ⟨#[]⟩) := cell_of_heap hv11 rfl
      have lv := lt_of_cell v0
      clear hi10 hM10 hR10 ha10 hk10 c11 hv11
      go_wp2_with fail
      rw [← hw11]
      clear hw11
      have hqs := Hq.out.old Hp0.out (Hc2.out.trans HM11.out.db.chg)
      have hin := HM11.out.ints Hok.out
      rw [Hil.out] at hin
      refine (eval_any (fun g => g < w11.heap.size) _ ⟨N, qs⟩ ins qn _ _ hqs hin (fun k hk => hk)).mono ?_
      rintro e w12 ⟨h12 | h12, c12⟩
      · obtain ⟨_, rfl⟩ := h12
        have HM12 := Lib.hid (HM11.out.new c12)
        have Hi12 := Lib.hid (Hi11.out.same c12)
        have u0 := (c12.cell (p := ⟨w10.heap.size, 0, none⟩) lv (by simp)).trans v0
        have u1 := (c12.cell (p := ⟨w10.heap.size, 1, none⟩) lv (by simp)).trans v1
        have lu := lt_of_cell u0
        obtain ⟨va, hva⟩ : ∃ va, val ⟨N, qs⟩ ins ((qn : Int)).toNat = va := ⟨_, rfl⟩
        rw [hva]
        have Hva := Lib.hid hva
        clear hqs hin c12 r0 r1 lr v0 v1 lv hva
        go_wp2_with fail
        go_region_held3 (fun w' => w'.cell? ⟨w10.heap.size, 0, none⟩ = some (.slice a10 1 c10) ∧ w'.cell? ⟨w10.heap.size, 1, none⟩ = some (.string ⟨#[]⟩))
          (first | (go_keep; done) | (exact kS11) | (exact kS10) | (exact kS9) | (exact kS8))
          (first
            | (go_at_call 14; refine (memoExample_any _).mono ?_; rintro e w13 ⟨rfl, c13⟩; have H8 := Lib.hid (((Chg.refl [] w12).drew).trans c13); have kS8 : w13.cell? ⟨w10.heap.size, 0, none⟩ = some (.slice a10 1 c10) ∧ w13.cell? ⟨w10.heap.size, 1, none⟩ = some (.string ⟨#[]⟩) := ⟨(H8.out.cell (p := ⟨w10.heap.size, 0, none⟩) lu (by simp)).trans u0, (H8.out.cell (p := ⟨w10.heap.size, 1, none⟩) lu (by simp)).trans u1⟩; clear c13)
            | (go_at_call 18; refine (number_any _ _).mono ?_; rintro e w14 ⟨a14, c14, rfl, hi14, cc14⟩; have H9 := Lib.hid (H8.out.trans cc14); have Hi14 := Lib.hid hi14; have kS9 : w14.cell? ⟨w10.heap.size, 0, none⟩ = some (.slice a10 1 c10) ∧ w14.cell? ⟨w10.heap.size, 1, none⟩ = some (.string ⟨#[]⟩) := ⟨(H9.out.cell (p := ⟨w10.heap.size, 0, none⟩) lu (by simp)).trans u0, (H9.out.cell (p := ⟨w10.heap.size, 1, none⟩) lu (by simp)).trans u1⟩; clear cc14 hi14)
            | (go_at_call 20; refine (equalValues_any _ _ _ _ _ (Hi12.out.same H9.out) Hi14.out).mono ?_; rintro e w15 ⟨rfl, c15⟩; have H10 := Lib.hid (H9.out.trans c15); have kS10 : w15.cell? ⟨w10.heap.size, 0, none⟩ = some (.slice a10 1 c10) ∧ w15.cell? ⟨w10.heap.size, 1, none⟩ = some (.string ⟨#[]⟩) := ⟨(H10.out.cell (p := ⟨w10.heap.size, 0, none⟩) lu (by simp)).trans u0, (H10.out.cell (p := ⟨w10.heap.size, 1, none⟩) lu (by simp)).trans u1⟩; have hvv : val ⟨N, qs⟩ ins qn = va := Hva.out; rw [hvv]; simp only [decide_true]; clear c15 hvv)
            | (go_at_call 41; refine ((HM12.out.new H10.out).cached Hok.out HR11.out (by omega)).mono ?_; rintro e w16 ⟨v16, ks16, rfl, hi16, hk16, c16, hl16⟩; obtain rfl := hk16.unique HR11.out.us HK11.out; obtain ⟨a16, b16, rfl, hb16, hb16'⟩ := hi16.shape; have H11 := Lib.hid (H10.out.trans c16); have kS11 : w16.cell? ⟨w10.heap.size, 0, none⟩ = some (.slice a10 1 c10) ∧ w16.cell? ⟨w10.heap.size, 1, none⟩ = some (.string ⟨#[]⟩) := ⟨(H11.out.cell (p := ⟨w10.heap.size, 0, none⟩) lu (by simp)).trans u0, (H11.out.cell (p := ⟨w10.heap.size, 1, none⟩) lu (by simp)).trans u1⟩; clear hi16 hk16 c16))
        all_goals
          go_wp2_with fail
          go_ret
          exact ⟨rfl, (Hc2.out.trans HM12.out.db.chg).trans H11.out⟩
      · exact absurd ⟨Hok.out, by rw [Hil.out], by omega, by simp only; omega⟩ h12.1
end Go.Proofs.Ytdeodcomlakpaaa
