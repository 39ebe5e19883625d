/- SnapshotStable: the law's walk. -/
import Derived.Test.YtggiddhhbilcjaaSnV
namespace Go.Proofs.Ytggiddhhbilcjaa.Sn
open Go.RowKit Go.ChangeMaps Go.MapKept Go.MuLone
set_option linter.unusedVariables false
set_option linter.unusedSimpArgs false
/-- while later commits are made: the snapshot's first value stays -/
structure SLoop (p : Prg) (W0 : World) (B : Nat) (w3 : World) (d3 : Hm) (rev : Int) (sb vb : Nat) (a8 : Option Addr) (c8 : Nat) (va : Int) (q : Nat) (lat0 : Int) (k : Nat) (d : Hm) (w : World) : Prop where
  law : LawH p W0 B w d
  aft : AfterH w3 w d3 d
  inv : HInv p d.pl
  lat : d.lat = lat0 + k
  old : d.old = d3.old
  snap : SnapAt w d sb rev
  box : w.heap[vb]? = some (.cells #[.slice a8 1 c8, .string ⟨#[]⟩] 39 (0, 0))
  ints : Inp.Ints w (.slice a8 1 c8) [va]
  val : val p (insS p d.pl rev) q = va
theorem SLoop.newW {p : Prg} {W0 : World} {B : Nat} {w3 : World} {d3 : Hm} {rev : Int} {sb vb : Nat} {a8 : Option Addr} {c8 : Nat} {va : Int} {q : Nat} {lat0 : Int} {k : Nat} {d : Hm} {w w' : World} (h : SLoop p W0 B w3 d3 rev sb vb a8 c8 va q lat0 k d w) (hc : Chg [] w w') : SLoop p W0 B w3 d3 rev sb vb a8 c8 va q lat0 k d w' :=
  ⟨h.law.newW hc, h.aft.thenNew hc, h.inv, h.lat, h.old, h.snap.new hc, (hc.block _ (lt_of_obj h.box) (by simp)).trans h.box, h.ints.same hc, h.val⟩
/-- one commit -/
theorem SLoop.next {p : Prg} (hp : PrgOk p) {W0 : World} {B : Nat} {w3 : World} {d3 : Hm} {rev : Int} {sb vb : Nat} {a8 : Option Addr} {c8 : Nat} {va : Int} {q : Nat} {lat0 : Int} {k : Nat} {d d' : Hm} {w w' : World} (h : SLoop p W0 B w3 d3 rev sb vb a8 c8 va q lat0 k d w) (hr : rev ≤ lat0) (hl : lat0 ≤ 100) (hk : k ≤ 100) {x : QK} {xs : List Int} (ha : AfterH w w' d d') (hpl : d'.pl = comP d.pl x xs) (hmu : d'.mu = 0) : SLoop p W0 B w3 d3 rev sb vb a8 c8 va q lat0 (k + 1) d' w' := by
  have hlat := h.lat
  have hdl : d.pl.lat = d.lat := rfl
  refine ⟨h.law.after ha hmu, h.aft.trans ha, by rw [hpl]; exact comP_inv hp h.inv (by unfold fev; omega), ?_, ?_, h.snap.after h.law.mem ha, box_after h.box h.law.mem ha, ints_after h.ints h.law.mem ha, ?_⟩
  · have e : d'.pl.lat = d.pl.lat + 1 := by rw [hpl]; exact comP_lat
    have e2 : d'.pl.lat = d'.lat := rfl
    omega
  · have e : d'.pl.old = d.pl.old := by rw [hpl]; exact comP_old
    exact e.trans h.old
  · rw [hpl, comP_ins h.inv (by omega)]
    exact h.val
/-- what commit_any asks of the versions -/
theorem inv_versOk {p : Prg} {d : Hm} (h : HInv p d.pl) (hl : d.lat ≤ 1000) (k : QK) : (∀ e ∈ gL d.VL k, 0 ≤ e.rev ∧ e.rev ≤ 1000000) ∧ (gL d.VL k).length ≤ 200000 := by
  have hv := h.vers k
  have hp : d.pl.vers k = (gL d.VL k).map Ve.pl := rfl
  have hdl : d.pl.lat = d.lat := rfl
  refine ⟨fun e he => ?_, ?_⟩
  · have := hv.bd e.pl (by rw [hp]; exact List.mem_map.2 ⟨e, he, rfl⟩)
    have e2 : e.pl.1 = e.rev := rfl
    omega
  · have hnd := nodup_below 2000 (P := (d.pl.vers k).map fun e => e.1.toNat) (by
      refine List.pairwise_map.2 (hv.inc.imp_of_mem fun {x y} hx hy hlt e => ?_)
      have h1 := hv.bd x hx
      have h2 := hv.bd y hy
      omega) (fun x hx => by
      obtain ⟨y, hy, rfl⟩ := List.mem_map.1 hx
      have := hv.bd y hy
      omega)
    rw [List.length_map, hp, List.length_map] at hnd
    omega
set_option maxRecDepth 100000 in
set_option maxHeartbeats 16000000 in
theorem stableLaw_any (p0 : Nat → Prop) (w : World) (inp : Int) (qs : List (List QO)) (ss ss2 : List I3) (q rv : Int) (qv sv sv2 : Value) (hq : I3ss p0 w qv qs) (hs : I3s p0 w sv ss) (hs2 : I3s p0 w sv2 ss2) (hp0 : ∀ k, p0 k → k < w.heap.size) :
    Calls Try.prog 3 #[.agg #[.int .i64 inp, qv], sv, sv2, .int .i64 q, .int .i64 rv] w fun e w' => e = .returned (.bool true) ∧ Chg [] w w' := by
  obtain ⟨av, capv, rfl, hlm, hlc⟩ := hq.shape
  have Hq := Lib.hid hq
  have Hs := Lib.hid hs
  have Hs2 := Lib.hid hs2
  have Hp0 := Lib.hid hp0
  have hc0 : Chg [] w (w.alloc (.cells #[.int .i64 inp, .slice av qs.length capv] 24)) := (Chg.refl [] w).alloc _
  have Hc0 := Lib.hid hc0
  clear hq hs hs2 hp0 hc0
  unfold maxLen at hlm
  go_enter Try.func3, Try.ntmps3
  go_wp2_with fail
  refine (memoExample_any _).mono ?_
  rintro e w1 ⟨rfl, c1⟩
  have m0 : w1.cell? ⟨w.heap.size, 0, none⟩ = some (.int .i64 inp) := (c1.cell (p := ⟨w.heap.size, 0, none⟩) (by simp) (by simp)).trans (cell_of_heap (heap_at _ _ _ rfl) rfl)
  have m1 : w1.cell? ⟨w.heap.size, 1, none⟩ = some (.slice av qs.length capv) := (c1.cell (p := ⟨w.heap.size, 1, none⟩) (by simp) (by simp)).trans (cell_of_heap (heap_at _ _ _ rfl) rfl)
  have lm := lt_of_cell m0
  have Hc1 := Lib.hid (Hc0.out.trans c1)
  clear c1
  go_wp2_with fail
  refine (usable_any (fun g => g < w1.heap.size) _ inp qs _ (Hq.out.old Hp0.out Hc1.out)).mono ?_
  rintro e w2 ⟨b, rfl, hb, c2⟩
  have n0 := (c2.cell (p := ⟨w.heap.size, 0, none⟩) lm (by simp)).trans m0
  have n1 := (c2.cell (p := ⟨w.heap.size, 1, none⟩) lm (by simp)).trans m1
  have ln := lt_of_cell n0
  have Hc2 := Lib.hid (Hc1.out.trans c2)
  clear c2 m0 m1 lm
  cases b with
  | false =>
    clear hb
    go_wp2_with fail
    refine (memoExample_any _).mono ?_
    rintro e w3 ⟨rfl, c3⟩
    go_wp2
    go_ret
    exact ⟨rfl, Hc2.out.trans c3⟩
  | true =>
    obtain ⟨hok, hl0, hi0⟩ := hb.1 rfl
    clear hb
    obtain ⟨N, rfl⟩ := Int.eq_ofNat_of_zero_le hok.inp.1
    have hN := hok.inp.2
    have hL := hok.size
    simp only at hN hL
    have Hok := Lib.hid hok
    have Hh := Lib.hid (history_any hok w2 hl0 (by omega) _ _ ss (Hq.out.old Hp0.out Hc2.out) (I3s.imp (I3s.kept (S := fun _ => False) Hs.out Hc2.out.p (fun _ _ h => h)) fun g hg => Nat.lt_of_lt_of_le (Hp0.out g hg) Hc2.out.size))
    obtain ⟨qn, hqn, hmq⟩ := modN q qs.length (by omega) (by omega)
    have Hmq := Lib.hid hmq
    clear hok hmq
    go_wp2_with fail
    refine Hh.out.mono ?_
    rintro e w3 ⟨d, v, rows, B, rfl, hlaw, hrel, hrl, hold, hst, hlen⟩
    obtain ⟨gs, cs, u0, hv, h1, h2, cu0, hrow0⟩ := hst.at_ (j := 0) (by omega)
    subst hv
    obtain ⟨rn, hrn⟩ : ∃ n, n = rows.length := ⟨_, rfl⟩
    rw [← hrn] at hst h1 ⊢
    have hr16 : 1 ≤ rn ∧ rn ≤ 16 := by omega
    have hlat : d.lat + 1 = rn := by rw [hrn]; exact hrel.lat
    obtain ⟨vn, hvn, hmv⟩ := modN rv rn (by omega) (by omega)
    have Hmv := Lib.hid hmv
    have m0' := n0
    have m1' := n1
    have n0 := (hlaw.chg.cell ln (by simp)).trans n0
    have n1 := (hlaw.chg.cell ln (by simp)).trans n1
    have HL := Lib.hid hlaw
    have HN := Lib.hid (And.intro ln (And.intro m0' m1'))
    have HR := Lib.hid (And.intro hrel (And.intro hrl hold))
    have HSt := Lib.hid hst
    unfold maxLen at h2
    have Hrn := Lib.hid (And.intro hrn hlat)
    clear hlaw hrel hrl hold hst hlen hrow0 cu0 hmv ln Hh hrn hlat m0' m1'
    have hrel := HR.out.1
    have hlat := Hrn.out.2
    have hdo : d.old = 0 := HR.out.2.2
    have hinv := hrel.inv
    obtain ⟨va, hva⟩ : ∃ va, va = val ⟨(N : Int), qs⟩ (rows.getD vn []) qn := ⟨_, rfl⟩
    have hrow := hrel.row vn (by rw [← Hrn.out.1]; omega)
    have Hat := Lib.hid (HL.out.atR (vn : Int))
    have Hinv := Lib.hid hinv
    have Hva := Lib.hid (show val ⟨(N : Int), qs⟩ (insS ⟨(N : Int), qs⟩ d.pl (vn : Int)) qn = va by rw [← hrow, hva])
    have Hva2 := Lib.hid hva
    have Hlat := Lib.hid hlat
    clear hrel hinv hlat hva hrow
    go_wp2_with (first | (go_at_call 9; (first | with_reducible refine (Hmq.out _).mono ?_ | with_reducible refine (Hmv.out _).mono ?_); rintro e w' ⟨rfl, rfl⟩))
    refine Hat.out.mono ?_
    rintro e w4 ⟨hl4, ha4, ⟨_, _, sb, rfl, hs4⟩ | ⟨hno, _⟩⟩
    · have H4 := Lib.hid (And.intro hl4 (And.intro ha4 hs4))
      clear hl4 ha4 hs4 n0 n1
      go_wp2_with fail
      refine (queryKey_any _ _).mono ?_
      rintro e w7 ⟨rfl, c7⟩
      have H7 := Lib.hid (And.intro (H4.out.1.newW c7) (And.intro (H4.out.2.1.thenNew c7) (H4.out.2.2.new c7)))
      clear c7
      unfold i3v
      have Hst := Lib.hid (H7.out.1.get Hok.out Hinv.out hqn H7.out.2.2 (by omega) (by have := Hlat.out; omega) (by have := Hlat.out; omega) (by omega))
      go_wp2_with fail
      refine Hst.out.mono ?_
      rintro e w8 ⟨d8, a8, c8, rfl, hi8, hl8, ha8, hpl8, hst8⟩
      rw [Hva.out] at hi8
      have hA8 := H7.out.2.1.trans ha8
      have hs8 := H7.out.2.2.after H7.out.1.mem ha8
      obtain ⟨w9, hw9⟩ : ∃ x, x = w8.alloc (.cells #[.slice a8 1 c8, .string ⟨#[]⟩] 39) := ⟨_, rfl⟩
      have c9 : Chg [] w8 w9 := by rw [hw9]; exact (Chg.refl _ _).alloc _
      have hb9 : w9.heap[w8.heap.size]? = some (.cells #[.slice a8 1 c8, .string ⟨#[]⟩] 39 (0, 0)) := by rw [hw9]; exact heap_at _ _ _ rfl
      have h9 : SLoop ⟨(N : Int), qs⟩ w2 B w3 d (vn : Int) sb w8.heap.size a8 c8 va qn (d.lat : Int) 0 d8 w9 := by
        refine ⟨hl8.newW c9, hA8.thenNew c9, hst8.inv, ?_, ?_, hs8.new c9, hb9, hi8.same c9, ?_⟩
        · have : d8.lat = d.lat := hst8.lat
          omega
        · have : d8.old = d.old := hst8.old
          omega
        · rw [insS_of_vers hst8.vers]
          exact Hva.out
      have H9 := Lib.hid h9
      clear hi8 hl8 ha8 hpl8 hst8 hA8 hs8 c9 hb9 h9 Hst
      obtain ⟨w8s, hw8s⟩ : ∃ n, n = w8.heap.size := ⟨_, rfl⟩
      rw [← hw8s] at H9
      go_upto_region 13 with fail
      rw [← hw9, ← hw8s]
      clear hw9 hw8s
      -- the later commits
      have hs2 := I3s.kept Hs2.out ((Hc2.out.trans H9.out.law.chg).p (S := fun _ => False)) (fun _ _ h => h)
      obtain ⟨sa2, sc2, rfl, hml2, hmc2⟩ := hs2.shape
      obtain ⟨kk, hkk⟩ : ∃ kk : Nat, min (ss2.length : Int) 15 = kk := ⟨(min (ss2.length : Int) 15).toNat, by omega⟩
      have hks : kk ≤ ss2.length := by omega
      have hk15 : kk ≤ 15 := by omega
      have hksc : (kk : Int) ≤ sc2 := by omega
      clear hs2
      go_wp2_with fail
      go_loopw [71] (fun jj wr => ∃ (k : Nat) (d' : Hm), k ≤ kk ∧ jj = .int .i64 (k : Nat) ∧ Hid (SLoop ⟨(N : Int), qs⟩ w2 B w3 d (vn : Int) sb w8s a8 c8 va qn (d.lat : Int) k d' wr)) (fun jj _ => kk - (intOf jj).toNat)
      case atStart => exact ⟨0, d8, by omega, rfl, H9⟩
      case round =>
        obtain ⟨k, d', hk, rfl, HL5⟩ := hrel
        by_cases hlt : k < kk
        · obtain ⟨g, off, rfl, hgp, r0, r1, r2⟩ := SlR.at (I3s.kept Hs2.out ((Hc2.out.trans HL5.out.law.chg).p (S := fun _ => False)) (fun _ _ h => h)) k (by omega) (0, 0, 0)
          obtain ⟨xd, hxd⟩ : ∃ x, x = (ss2.getD k (0, 0, 0)).1 := ⟨_, rfl⟩
          obtain ⟨xa, hxa⟩ : ∃ x, x = (ss2.getD k (0, 0, 0)).2.1 := ⟨_, rfl⟩
          obtain ⟨xb, hxb⟩ : ∃ x, x = (ss2.getD k (0, 0, 0)).2.2 := ⟨_, rfl⟩
          rw [← hxd] at r0
          rw [← hxa] at r1
          rw [← hxb] at r2
          clear hxd hxa hxb hgp
          obtain ⟨jn, hjn, hmj⟩ := modN xa N (by omega) (by omega)
          have Hmj := Lib.hid hmj
          have hk1 : (k : Int) < kk := by omega
          obtain ⟨w5, hw5⟩ : ∃ x, x = wr.alloc (.cells #[.int .i64 xd, .int .i64 xa, .int .i64 xb] 46) := ⟨_, rfl⟩
          have c5 : Chg [] wr w5 := by rw [hw5]; exact (Chg.refl [] wr).alloc _
          have hs5 : w5.heap[wr.heap.size]? = some (.cells #[.int .i64 xd, .int .i64 xa, .int .i64 xb] 46 (0, 0)) := by rw [hw5]; exact heap_at _ _ _ rfl
          have H5 := Lib.hid (HL5.out.newW c5)
          have Hs5 := Lib.hid hs5
          clear c5 hs5 hmj
          go_upto_region 16 with fail
          rw [← hw5]
          clear hw5 r0 r1 r2
          refine wp_region_U (fun w' => w'.cell? ⟨wr.heap.size, 1, none⟩ = some (.int .i64 xa) ∧ w'.cell? ⟨wr.heap.size, 2, none⟩ = some (.int .i64 xb) ∧ w'.cell? ⟨w.heap.size, 0, none⟩ = some (.int .i64 (N : Int))) (fun w' => w'.cell? ⟨wr.heap.size, 1, none⟩ = some (.int .i64 xa) ∧ w'.cell? ⟨wr.heap.size, 2, none⟩ = some (.int .i64 xb) ∧ w'.cell? ⟨w.heap.size, 0, none⟩ = some (.int .i64 (N : Int))) 13 (by kernel_rfl) ?_
          intro wd hwd
          have hcd : Chg [] w5 wd := by rw [hwd]; exact (Chg.refl _ _).drew
          have hsd := (hcd.block _ (lt_of_obj Hs5.out) (by simp)).trans Hs5.out
          have Hd := Lib.hid (H5.out.newW hcd)
          have hSW := And.intro (cell_of_heap hsd (i := 1) rfl) (And.intro (cell_of_heap hsd (i := 2) rfl) ((Hd.out.law.chg.cell HN.out.1 (by simp)).trans HN.out.2.1))
          have Hsd := Lib.hid hsd
          clear hwd hcd hsd
          refine anyU_pure (i := 0) (v := .pointer (some ⟨d.b, 0, none⟩)) rfl (by kernel_rfl) (fun _ _ _ h => h) (Or.inl ⟨by rfl, fun w' hS => by go_simp⟩) (fun _ => hSW) hSW ?_
          simp only [Act.put, List.setIfInBounds_toArray, List.set_cons_zero, List.set_cons_succ]
          refine anyU_pure (i := 1) (v := .pointer (some ⟨wr.heap.size, 1, none⟩)) rfl (by kernel_rfl) (fun _ _ _ h => h) (Or.inl ⟨by rfl, fun w' hS => by go_simp⟩) (fun _ => hSW) hSW ?_
          simp only [Act.put, List.setIfInBounds_toArray, List.set_cons_zero, List.set_cons_succ]
          refine anyU_keep (i := 2) (v := .int .i64 xa) rfl (by kernel_rfl) (fun _ _ _ h => h) (Or.inl ⟨by rfl, fun w' hS => by go_simp⟩) (fun _ h => h) (fun _ => hSW) hSW ?_
          simp only [Act.put, List.setIfInBounds_toArray, List.set_cons_zero, List.set_cons_succ]
          refine anyU_pure (i := 3) (v := .pointer (some ⟨w.heap.size, 0, none⟩)) rfl (by kernel_rfl) (fun _ _ _ h => h) (Or.inl ⟨by rfl, fun w' hS => by go_simp⟩) (fun _ => hSW) hSW ?_
          simp only [Act.put, List.setIfInBounds_toArray, List.set_cons_zero, List.set_cons_succ]
          refine anyU_keep (i := 4) (v := .int .i64 (N : Int)) rfl (by kernel_rfl) (fun _ _ _ h => h) (Or.inl ⟨by rfl, fun w' hS => by go_simp⟩) (fun _ h => h) (fun _ => hSW) hSW ?_
          simp only [Act.put, List.setIfInBounds_toArray, List.set_cons_zero, List.set_cons_succ]
          refine anyU_pure (i := 7) (v := .pointer (some ⟨wr.heap.size, 2, none⟩)) rfl (by kernel_rfl) (fun _ _ _ h => h) (Or.inl ⟨by rfl, fun w' hS => by go_simp⟩) (fun _ => hSW) hSW ?_
          simp only [Act.put, List.setIfInBounds_toArray, List.set_cons_zero, List.set_cons_succ]
          refine anyU_keep (i := 8) (v := .int .i64 xb) rfl (by kernel_rfl) (fun _ _ _ h => h) (Or.inl ⟨by rfl, fun w' hS => by go_simp⟩) (fun _ h => h) (fun _ => hSW) hSW ?_
          simp only [Act.put, List.setIfInBounds_toArray, List.set_cons_zero, List.set_cons_succ]
          refine anyU_one (k := 5) (by kernel_rfl) rfl (fun K hK => ?_)
          go_simp
          refine (Hmj.out wd).mono ?_
          rintro e w' ⟨rfl, rfl⟩
          refine hK _ _ (fun _ => hSW) hSW ?_
          clear hK K
          refine anyU_one (k := 6) (by kernel_rfl) rfl (fun K hK => ?_)
          go_simp
          refine (inputKeyA (jn : Int) wd).mono ?_
          rintro e w7 ⟨rfl, c7'⟩
          have hS7 := And.intro ((c7'.cell (lt_of_cell hSW.1) (by simp)).trans hSW.1) (And.intro ((c7'.cell (lt_of_cell hSW.2.1) (by simp)).trans hSW.2.1) ((c7'.cell (lt_of_cell hSW.2.2) (by simp)).trans hSW.2.2))
          have Hc7 := Lib.hid c7'
          clear c7' hSW
          refine hK _ _ (fun _ => hS7) hS7 ?_
          clear hK K
          refine anyU_one (k := 9) (by kernel_rfl) rfl (fun K hK => ?_)
          go_simp
          refine (mod_any xb 4 w7 (by decide) (by decide)).mono ?_
          rintro e w' ⟨rfl, rfl⟩
          obtain ⟨nb, hnb⟩ : ∃ x, x = modI xb 4 := ⟨_, rfl⟩
          rw [← hnb]
          clear hnb
          refine hK _ _ (fun _ => hS7) hS7 ?_
          clear hK K
          refine anyU_one (k := 10) (by kernel_rfl) rfl (fun K hK => ?_)
          go_simp
          refine (number_any nb w7).mono ?_
          rintro e wn ⟨an, cn, rfl, hin, ccn⟩
          have hSn := And.intro ((ccn.cell (lt_of_cell hS7.1) (by simp)).trans hS7.1) (And.intro ((ccn.cell (lt_of_cell hS7.2.1) (by simp)).trans hS7.2.1) ((ccn.cell (lt_of_cell hS7.2.2) (by simp)).trans hS7.2.2))
          have Hcn := Lib.hid (Hc7.out.trans ccn)
          have Hin := Lib.hid hin
          clear ccn hin hS7
          refine hK _ _ (fun _ => hSn) hSn ?_
          clear hK K
          refine anyU_one (k := 11) (by kernel_rfl) rfl (fun K hK => ?_)
          go_simp
          refine hK _ _ (fun _ => hSn) hSn ?_
          clear hK K
          refine anyU_one (k := 12) (by kernel_rfl) rfl (fun K hK => ?_)
          go_simp
          obtain ⟨wm, hwm⟩ : ∃ x, x = wn.alloc (.cells #[.int .i64 0, .int .i64 (jn : Int), .int .i64 0, .slice an 1 cn, .string ⟨#[]⟩] 51) := ⟨_, rfl⟩
          have hcm : Chg [] wn wm := by rw [hwm]; exact (Chg.refl _ _).alloc _
          have hinm : InpAt wm wn.heap.size 0 jn 0 an 1 cn := by
            have hb : wm.heap[wn.heap.size]? = some (.cells #[.int .i64 0, .int .i64 (jn : Int), .int .i64 0, .slice an 1 cn, .string ⟨#[]⟩] 51 (0, 0)) := by rw [hwm]; exact heap_at _ _ _ rfl
            exact ⟨cell_of_heap hb rfl, cell_of_heap hb rfl, cell_of_heap hb rfl, cell_of_heap hb rfl, cell_of_heap hb rfl⟩
          rw [← hwm]
          have hSm := And.intro ((hcm.cell (lt_of_cell hSn.1) (by simp)).trans hSn.1) (And.intro ((hcm.cell (lt_of_cell hSn.2.1) (by simp)).trans hSn.2.1) ((hcm.cell (lt_of_cell hSn.2.2) (by simp)).trans hSn.2.2))
          have hLm := Hd.out.newW (Hcn.out.trans hcm)
          have hlm := hLm.lat
          have hlt' := Hlat.out
          have hvo := inv_versOk hLm.inv (by omega) (0, (jn : Int), 0)
          have hgM : ¬ d'.M wn.heap.size := fun hm => by have := Hd.out.law.mem.ltM hm; have := Hcn.out.size; omega
          have hb' : d'.b = d.b := hLm.aft.b
          have hcom := commit_any wm d' jn 0 wn.heap.size 0 an cn [nb] hLm.law.mem hLm.law.mu (by unfold Inp.QKok Inp.In64; simp only; omega) hvo.1 hvo.2 (by have := hLm.inv.lat.1; have e : d'.lat = d'.pl.lat := rfl; omega) hinm hgM (Hin.out.same hcm) (by simp)
          rw [hb'] at hcom
          have Hcom := Lib.hid hcom
          have HLm := Lib.hid hLm
          have Hsm := Lib.hid (((Hcn.out.trans hcm).block _ (lt_of_obj Hsd.out) (by simp)).trans Hsd.out)
          clear hcm hinm hwm hSn hLm hlm hvo hgM hcom hlt'
          refine hK _ _ (fun _ => hSm) hSm ?_
          clear hK K
          refine anyU_one (k := 13) (by kernel_rfl) rfl (fun K hK => ?_)
          go_simp
          refine Hcom.out.mono ?_
          rintro e wA ⟨rfl, d'', ha, hpl', hmu', hrl'⟩
          have hnA := HLm.out.next Hok.out (by have := Hlat.out; omega) (by have := Hlat.out; omega) (by omega) ha hpl' hmu'
          have hsA := (ha.other (lt_of_obj Hsm.out) (ne_tyM (by decide) HLm.out.law.mem (tyAt_cells Hsm.out))).1.trans Hsm.out
          have hSA := And.intro (cell_of_heap hsA (i := 1) rfl) (And.intro (cell_of_heap hsA (i := 2) rfl) ((hnA.law.chg.cell HN.out.1 (by simp)).trans HN.out.2.1))
          have HnA := Lib.hid hnA
          clear ha hpl' hmu' hrl' hnA hsA
          refine hK _ _ (fun h => by simp at h) hSA ?_
          clear hK K
          refine anyU_done (by kernel_rfl) ?_
          clear hSA hSm
          go_wp2_with fail
          exact ⟨⟨k + 1, d'', by omega, by go_num, HnA⟩, by simp [intOf]; omega⟩
        · obtain rfl : k = kk := by omega
          have hb' : d'.b = d.b := HL5.out.aft.b
          have hlat5 := HL5.out.lat
          have hold5 := HL5.out.old
          have hlat' := Hlat.out
          go_wp2_with fail
          refine (queryKey_any _ _).mono ?_
          rintro e wk ⟨rfl, ck⟩
          have Hk := Lib.hid (HL5.out.newW ck)
          clear ck
          unfold i3v
          have Hget := Lib.hid (Hk.out.law.get Hok.out Hk.out.inv hqn Hk.out.snap (by omega) (by omega) (by omega) (by omega))
          go_wp2_with fail
          refine Hget.out.mono ?_
          rintro e wg ⟨dg, ag, cg, rfl, hig, hlg, hag, hplg, hstg⟩
          rw [Hk.out.val] at hig
          have hAg := Hk.out.aft.trans hag
          have hbg := box_after Hk.out.box Hk.out.law.mem hag
          have hi8 := ints_after Hk.out.ints Hk.out.law.mem hag
          obtain ⟨w9', hw9⟩ : ∃ x, x = wg.alloc (.cells #[.slice ag 1 cg, .string ⟨#[]⟩] 39) := ⟨_, rfl⟩
          have c9 : Chg [] wg w9' := by rw [hw9]; exact (Chg.refl _ _).alloc _
          have hb9 : w9'.heap[wg.heap.size]? = some (.cells #[.slice ag 1 cg, .string ⟨#[]⟩] 39 (0, 0)) := by rw [hw9]; exact heap_at _ _ _ rfl
          have hst10 := HSt.out.after HL.out.mem (hAg.thenNew c9)
          obtain ⟨g', cap', u, he, _, _, cu, hrow⟩ := hst10.at_ (j := vn) (by rw [← Hrn.out.1]; omega)
          simp only [Value.slice.injEq, Option.some.injEq, Addr.mk.injEq, and_true] at he
          obtain ⟨rfl, hz, rfl⟩ := he
          clear hz
          have hRe : rows[vn]'(by rw [← Hrn.out.1]; omega) = rows.getD vn [] := by rw [List.getD_eq_getElem?_getD, List.getElem?_eq_getElem (show vn < rows.length by rw [← Hrn.out.1]; omega), Option.getD_some]
          have hRl : (rows.getD vn []).length = N := by rw [← hRe]; exact rows_len (p := ⟨(N : Int), qs⟩) rfl HR.out.1 _
          rw [hRe] at hrow
          have hl9 := hlg.newW c9
          have n0 := (hl9.chg.cell HN.out.1 (by simp)).trans HN.out.2.1
          have n1 := (hl9.chg.cell HN.out.1 (by simp)).trans HN.out.2.2
          have H10 := Lib.hid (And.intro hl9 (And.intro (And.intro ((c9.block _ (lt_of_obj hbg) (by simp)).trans hbg) (hi8.same c9)) (And.intro hb9 (hig.same c9))))
          have Hrow := Lib.hid hrow
          have HRl := Lib.hid hRl
          have hv1 : (vn : Int) < rn := by omega
          obtain ⟨wgs, hwgs⟩ : ∃ n, n = wg.heap.size := ⟨_, rfl⟩
          rw [← hwgs] at H10
          clear hig hlg hag hplg hstg hAg hbg hi8 c9 hb9 hst10 hrow hRe hRl hl9 Hget
          go_upto_region 19 with fail
          rw [← hw9, ← hwgs]
          clear hw9 hwgs
          refine wp_region_U (fun w' => w'.cell? ⟨w.heap.size, 0, none⟩ = some (.int .i64 (N : Int)) ∧ w'.cell? ⟨w.heap.size, 1, none⟩ = some (.slice av qs.length capv) ∧ w'.cell? ⟨gs, vn, none⟩ = some u) (fun _ => True) 6 (by kernel_rfl) ?_
          intro wd hwd
          have hcd : Chg [] w9' wd := by rw [hwd]; exact (Chg.refl _ _).drew
          have hSW := And.intro ((hcd.cell (lt_of_cell n0) (by simp)).trans n0) (And.intro ((hcd.cell (lt_of_cell n1) (by simp)).trans n1) ((hcd.cell (lt_of_cell cu) (by simp)).trans cu))
          have Hcd := Lib.hid hcd
          clear hwd hcd n0 n1 cu
          refine anyU_take (i := 0) (v := .agg #[.int .i64 (N : Int), .slice av qs.length capv]) rfl (by kernel_rfl) (fun _ _ _ h => h) (Or.inl ⟨by rfl, fun w' hS => by go_simp⟩) hSW trivial ?_
          simp only [Act.put, List.setIfInBounds_toArray, List.set_cons_zero, List.set_cons_succ]
          refine anyU_pure (i := 1) (v := .slice (some ⟨gs, 0, none⟩) rn cs) rfl (by kernel_rfl) (fun _ _ _ h => h) (Or.inl ⟨by rfl, fun w' hS => by go_simp⟩) (fun _ => hSW) trivial ?_
          simp only [Act.put, List.setIfInBounds_toArray, List.set_cons_zero, List.set_cons_succ]
          refine anyU_pure (i := 2) (v := .int .i64 (vn : Int)) rfl (by kernel_rfl) (fun _ _ _ h => h) (Or.inl ⟨by rfl, fun w' hS => by go_simp⟩) (fun _ => hSW) trivial ?_
          simp only [Act.put, List.setIfInBounds_toArray, List.set_cons_zero, List.set_cons_succ]
          refine anyU_pure (i := 3) (v := .pointer (some ⟨gs, vn, none⟩)) rfl (by kernel_rfl) (fun _ _ _ h => h) (Or.inl ⟨by rfl, fun w' hS => by go_simp⟩) (fun _ => hSW) trivial ?_
          simp only [Act.put, List.setIfInBounds_toArray, List.set_cons_zero, List.set_cons_succ]
          refine anyU_take (i := 4) (v := u) rfl (by kernel_rfl) (fun _ _ _ h => h) (Or.inl ⟨by rfl, fun w' hS => by go_simp⟩) hSW trivial ?_
          simp only [Act.put, List.setIfInBounds_toArray, List.set_cons_zero, List.set_cons_succ]
          refine anyU_pure (i := 5) (v := .int .i64 (qn : Int)) rfl (by kernel_rfl) (fun _ _ _ h => h) (Or.inl ⟨by rfl, fun w' hS => by go_simp⟩) (fun _ => hSW) trivial ?_
          simp only [Act.put, List.setIfInBounds_toArray, List.set_cons_zero, List.set_cons_succ]
          clear hSW
          refine anyU_one (k := 6) (by kernel_rfl) rfl (fun K hK => ?_)
          go_simp
          refine (eval_any (fun g => g < wd.heap.size) wd ⟨(N : Int), qs⟩ (rows.getD vn []) qn _ _ (Hq.out.old Hp0.out ((Hc2.out.trans H10.out.1.chg).trans Hcd.out)) (IntsP.imp (intsP_of_row (hrow_new Hrow.out Hcd.out)) fun g hg => hg.2) (fun k hk => hk)).mono ?_
          rintro e w11 ⟨h11 | h11, c11⟩
          · obtain ⟨_, rfl⟩ := h11
            have Hc11 := Lib.hid (Hcd.out.trans c11)
            have hva := Hva2.out
            rw [show ((qn : Int)).toNat = qn from rfl, ← hva]
            clear c11 hva
            refine hK _ _ (fun h => by simp at h) trivial ?_
            clear hK K
            refine anyU_one (k := 7) (by kernel_rfl) rfl (fun K hK => ?_)
            go_simp
            refine hK _ _ (fun h => by simp at h) trivial ?_
            clear hK K
            refine anyU_pure (i := 8) (v := .int .i64 va) rfl (by kernel_rfl) (fun _ _ _ h => h) (Or.inl ⟨by rfl, fun w' hS => by go_simp⟩) (fun h => by simp at h) trivial ?_
            simp only [Act.put, List.setIfInBounds_toArray, List.set_cons_zero, List.set_cons_succ]
            refine anyU_pure (i := 9) (v := .int .i64 0) rfl (by kernel_rfl) (fun _ _ _ h => h) (Or.inl ⟨by rfl, fun w' hS => by go_simp⟩) (fun h => by simp at h) trivial ?_
            simp only [Act.put, List.setIfInBounds_toArray, List.set_cons_zero, List.set_cons_succ]
            refine anyU_one (k := 10) (by kernel_rfl) rfl (fun K hK => ?_)
            go_simp
            refine hK _ _ (fun h => by simp at h) trivial ?_
            clear hK K
            refine anyU_one (k := 11) (by kernel_rfl) rfl (fun K hK => ?_)
            go_simp
            refine hK _ _ (fun h => by simp at h) trivial ?_
            clear hK K
            refine anyU_done (by kernel_rfl) ?_
            have hb11 := (Hc11.out.block _ (lt_of_obj H10.out.2.1.1) (by simp)).trans H10.out.2.1.1
            have hb12 := (Hc11.out.block _ (lt_of_obj H10.out.2.2.1) (by simp)).trans H10.out.2.2.1
            have v0 : w11.cell? ⟨w8s, 0, none⟩ = some (.slice a8 1 c8) := cell_of_heap hb11 rfl
            have v1 : w11.cell? ⟨w8s, 1, none⟩ = some (.string ⟨#[]⟩) := cell_of_heap hb11 rfl
            have u0' : w11.cell? ⟨wgs, 0, none⟩ = some (.slice ag 1 cg) := cell_of_heap hb12 rfl
            have u1 : w11.cell? ⟨wgs, 1, none⟩ = some (.string ⟨#[]⟩) := cell_of_heap hb12 rfl
            have lv := lt_of_cell v0
            have lu := lt_of_cell u0'
            have Hi11 := Lib.hid (And.intro (H10.out.2.1.2.same Hc11.out) (H10.out.2.2.2.same Hc11.out))
            have K5 := Lib.hid (fun (wz : World) (hz : Chg [] w11 wz) => (And.intro (And.intro ((hz.cell (p := ⟨w8s, 0, none⟩) lv (by simp)).trans v0) ((hz.cell (p := ⟨w8s, 1, none⟩) lv (by simp)).trans v1)) (And.intro ((hz.cell (p := ⟨wgs, 0, none⟩) lu (by simp)).trans u0') ((hz.cell (p := ⟨wgs, 1, none⟩) lu (by simp)).trans u1))))
            clear hb11 hb12 lv lu
            go_wp2_with fail
            go_region_held3 (fun w' => (w'.cell? ⟨w8s, 0, none⟩ = some (.slice a8 1 c8) ∧ w'.cell? ⟨w8s, 1, none⟩ = some (.string ⟨#[]⟩)) ∧ w'.cell? ⟨wgs, 0, none⟩ = some (.slice ag 1 cg) ∧ w'.cell? ⟨wgs, 1, none⟩ = some (.string ⟨#[]⟩))
              (first | (go_keep; done) | (exact K5.out _ (by assumption)))
              (first
                | (go_at_call 6; refine (memoExample_any _).mono ?_; rintro e w15 ⟨rfl, c15⟩; have H8' := ((Chg.refl [] w11).drew).trans c15; have HH8 := Lib.hid H8'; clear c15)
                | (go_at_call 15; (with_reducible refine (number_any va _).mono ?_); rintro e w16 ⟨a16, c16, rfl, hi16, cc16⟩; have H11' := HH10.out.trans cc16; have HH11 := Lib.hid H11'; have Hi16 := Lib.hid hi16; clear cc16 hi16 H10')
                | (go_at_call 17; (with_reducible refine (equalValues_any _ (.slice a8 1 c8) (.slice ag 1 cg) _ _ (Hi11.out.1.same HH8.out) (Hi11.out.2.same HH8.out)).mono ?_); rintro e w17 ⟨rfl, c17⟩; have H10' := HH8.out.trans c17; have HH10 := Lib.hid H10'; simp only [decide_true]; clear c17 H8')
                | (go_at_call 17; (with_reducible refine (equalValues_any _ (.slice a8 1 c8) (.slice a16 1 c16) _ _ (Hi11.out.1.same HH11.out) Hi16.out).mono ?_); rintro e w19 ⟨rfl, c19⟩; have H12' := HH11.out.trans c19; have HH12 := Lib.hid H12'; simp only [decide_true]; clear c19 H11'))
            all_goals
              go_wp2_with fail
              go_ret
              exact ⟨rfl, (Hc2.out.trans ((H10.out.1.chg.trans Hc11.out))).trans HH12.out⟩
          · exact absurd ⟨Hok.out, by rw [HRl.out], by omega, by simp only; omega⟩ h11.1
    · exact absurd ⟨by omega, by have := Hlat.out; omega⟩ hno
end Go.Proofs.Ytggiddhhbilcjaa.Sn
