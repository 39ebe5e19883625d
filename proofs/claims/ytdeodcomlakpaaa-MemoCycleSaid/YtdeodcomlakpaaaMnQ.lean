/- A compiled program's closures: get mapped to numbers, the compute function. -/
import Derived.Test.YtdeodcomlakpaaaMnP
namespace Go.Proofs.Ytdeodcomlakpaaa
open Go.RowKit Go.ChangeMaps Go.MapKept
set_option linter.unusedVariables false
set_option linter.unusedSimpArgs false
/-- values as numbers -/
def gmap {σ : Type} (G : σ → QK → Except Int (List Int) × σ) (s : σ) (k : QK) : Except Int Int × σ :=
  match G s k with
  | (.ok xs, s') => (.ok (red (xs.getD 0 0)), s')
  | (.error x, s') => (.error x, s')
/-- a compiled program's query -/
def compQ (qs : List (List QO)) (key : QK) (G : GS → QK → Except Int (List Int) × GS) (s : GS) : Except Int (List Int) × GS :=
  match runR (gmap G) key.2.1 (qs.getD key.2.1.toNat []) s with
  | (.ok n, s') => (.ok [n], s')
  | (.error x, s') => (.error x, s')
/-- a query's key -/
def QryK (N : Nat) (k : QK) : Prop := k.1 = 1 ∧ 0 ≤ k.2.1 ∧ k.2.1 < N ∧ k.2.2 = 0
theorem enterC1 (args : Array Value) (w : World) : (callFunc 57 args).run Try.prog w = .ok (.enter 57 args) w := by go_simp
theorem enterC (args : Array Value) (w : World) : (callFunc 55 args).run Try.prog w = .ok (.enter 55 args) w := by go_simp
theorem run_nums (x : Option Addr) (y z : Nat) (u : Value) (w : World) : (Instr.field 31 (.agg #[.slice x y z, u]) 0).run Try.prog w = .ok (.slice x y z) w := by kernel_rfl
section
variable {σ : Type} {fn : Nat} {gcaps : Array Value} {I : (Nat → Prop) → σ → World → Prop} {RO' : Nat → Prop} {G : σ → QK → Except Int (List Int) × σ} {ch : Int → List PanicEntry} {inp idx : Int} {Kk : QK → Prop}
/-- the closure's memory: the get's, and the box of get -/
def QI (fn : Nat) (gcaps : Array Value) (I : (Nat → Prop) → σ → World → Prop) (RO' : Nat → Prop) (bg : Nat) (F : Nat → Prop) (s : σ) (w : World) : Prop :=
  I (fun g => F g ∨ g = bg) s w ∧ w.heap[bg]? = some (.cells #[.func (.func fn) #[] gcaps] 28 (0, 0)) ∧ ¬ RO' bg
def QRO (RO' : Nat → Prop) (bg : Nat) : Nat → Prop := fun g => RO' g ∨ g = bg
set_option maxRecDepth 100000 in
set_option maxHeartbeats 1000000 in
theorem getq_any (fam : VFam fn gcaps I RO' G ch Kk) (bg : Nat) (F : Nat → Prop) (s : σ) (w : World) (k : QK) (hk : Kk k) (hI : QI fn gcaps I RO' bg F s w) :
    Calls Try.prog 57 (#[i3v k] ++ #[.pointer (some ⟨bg, 0, none⟩)]) w (GetPost (QI fn gcaps I RO' bg) (QRO RO' bg) (gmap G) ch F s k w) := by
  obtain ⟨k1, k2, k3⟩ := k
  obtain ⟨h1, hb, hr⟩ := hI
  obtain ⟨wa, hwa⟩ : ∃ x, x = w.alloc (.cells #[.int .i64 k1, .int .i64 k2, .int .i64 k3] 27) := ⟨_, rfl⟩
  have hca : Chg [] w wa := by rw [hwa]; exact (Chg.refl [] w).alloc _
  have lb := lt_of_obj hb
  have hIa := fam.keep h1 (hca.p (S := fun g => (F g ∨ g = bg) ∧ ¬ RO' g))
  have henter := fam.enter
  have hnums := run_nums
  have hba := (hca.block _ lb (by simp)).trans hb
  have q0 : wa.cell? ⟨bg, 0, none⟩ = some (.func (.func fn) #[] gcaps) := cell_of_heap hba (i := 0) rfl
  have q0w : w.cell? ⟨bg, 0, none⟩ = some (.func (.func fn) #[] gcaps) := cell_of_heap hb (i := 0) rfl
  have hkb : wa.heap[w.heap.size]? = some (.cells #[.int .i64 k1, .int .i64 k2, .int .i64 k3] 27 (0, 0)) := by rw [hwa]; exact heap_at _ _ _ rfl
  have e0 := cell_of_heap hkb (i := 0) rfl
  have e1 := cell_of_heap hkb (i := 1) rfl
  have e2 := cell_of_heap hkb (i := 2) rfl
  have Hcall := Lib.hid (fam.call _ s wa (k1, k2, k3) hk hIa)
  unfold i3v at Hcall
  unfold i3v
  have Hca := Lib.hid hca
  have Hba := Lib.hid hba
  have Hr := Lib.hid hr
  have Fam := Lib.hid fam
  clear hIa hba hkb h1 hb hr hk hca fam
  go_enter Try.func57, Try.ntmps57
  go_wp2_with fail
  rw [← hwa]
  refine Hcall.out.mono ?_
  intro e w2 hpost
  have hfin : ∀ s', I (fun k => (F k ∨ k = bg) ∨ (w.heap.size ≤ k ∧ k < wa.heap.size)) s' w2 → ChgP (fun k => ¬ ((F k ∨ k = bg) ∨ (w.heap.size ≤ k ∧ k < wa.heap.size)) ∧ ¬ RO' k) wa w2 → QI fn gcaps I RO' bg F s' w2 ∧ ChgP (fun k => ¬ F k ∧ ¬ QRO RO' bg k) w w2 := by
    intro s' hI2 hc2
    refine ⟨⟨Fam.out.anti hI2 fun k h => Or.inl h, (hc2.block bg (lt_of_obj Hba.out) (fun h => h.1 (Or.inl (Or.inr rfl)))).trans Hba.out, Hr.out⟩, (Hca.out.p (S := fun k => ¬ F k ∧ ¬ QRO RO' bg k)).comp hc2 fun g hg => Or.inl ⟨fun h => hg.1 (Or.inl (Or.inl h)), fun h => ?_⟩⟩
    rcases h with h | h
    · exact hg.2 h
    · exact hg.1 (Or.inl (Or.inr h))
  have Hfin := Lib.hid hfin
  clear hfin hwa q0 q0w e0 e1 e2 henter
  rcases hg : G s (k1, k2, k3) with ⟨_ | _, s'⟩
  · rename_i x
    obtain ⟨rfl, hI2, hc2⟩ := hpost.err hg
    have Hg := Lib.hid (show gmap G s (k1, k2, k3) = (.error x, s') by unfold gmap; rw [hg])
    obtain ⟨f1, f2⟩ := Hfin.out s' hI2 hc2
    exact ⟨rfl, by unfold GetPost; rw [Hg.out]; exact ⟨rfl, f1, f2⟩⟩
  · rename_i xs
    obtain ⟨a, c, rfl, hints, hlen, hI2, hc2⟩ := hpost.ok hg
    have Hg := Lib.hid (show gmap G s (k1, k2, k3) = (.ok (red (xs.getD 0 0)), s') by unfold gmap; rw [hg])
    have Hf := Lib.hid (Hfin.out s' hI2 hc2)
    have hcells := hints.cells
    clear hpost hg hI2 hc2 hints Hfin
    rcases hcells with ⟨h, rfl⟩ | ⟨g, off, cap, h, hlm, hc⟩
    · simp only [Value.slice.injEq] at h
      obtain ⟨rfl, _, rfl⟩ := h
      go_wp2_with fail
      go_ret
      unfold GetPost
      rw [Hg.out]
      exact ⟨rfl, Hf.out⟩
    · simp only [Value.slice.injEq, true_and] at h
      obtain ⟨rfl, rfl⟩ := h
      by_cases h0 : xs.length = 0
      · obtain rfl : xs = [] := List.eq_nil_of_length_eq_zero h0
        go_wp2_with fail
        go_ret
        unfold GetPost
        rw [Hg.out]
        exact ⟨rfl, Hf.out⟩
      · have hpos : 0 < xs.length := by omega
        have hz := hc 0 hpos
        have hne : ¬ ((xs.length : Int) = 0) := by omega
        have hpi : (0 : Int) < xs.length := by omega
        simp only [Nat.add_zero] at hz
        generalize xs.getD 0 0 = z at hz Hg
        clear hc
        go_wp2_with fail
        refine (reduce_any _ _).mono ?_
        rintro e w3 ⟨rfl, rfl⟩
        go_wp2_with fail
        go_ret
        unfold GetPost
        rw [Hg.out]
        exact ⟨rfl, Hf.out⟩
theorem getq_fam (fam : VFam fn gcaps I RO' G ch Kk) (bg : Nat) (hk : ∀ k, KeyIn inp idx k → Kk k) : GetFam 57 #[] #[.pointer (some ⟨bg, 0, none⟩)] (QI fn gcaps I RO' bg) (QRO RO' bg) (gmap G) ch inp idx where
  enter := enterC1
  keep := by
    rintro F s w w' ⟨h1, hb, hr⟩ hc
    have h2 := fam.keep h1 (hc.mono (T := fun g => (F g ∨ g = bg) ∧ ¬ RO' g) fun g hg => ⟨Or.inl hg.1, fun h => hg.2 (Or.inl h)⟩)
    exact ⟨fam.anti h2 fun g hg => by
      rcases hg with (h | h) | h
      · exact Or.inl (Or.inl h)
      · exact Or.inr h
      · exact Or.inl (Or.inr h), (hc.block bg (lt_of_obj hb) (fun h => h.2 (Or.inr rfl))).trans hb, hr⟩
  anti := by
    rintro F F' s w ⟨h1, hb, hr⟩ hF
    exact ⟨fam.anti h1 fun g hg => hg.imp (hF g) id, hb, hr⟩
  small := by
    intro s k n _ h
    unfold gmap at h
    split at h
    · simp only [Except.ok.injEq] at h; subst h; exact red_bd _
    · cases h
  call := fun F s w k hk' hI => getq_any fam bg F s w k (hk k hk') hI
end
theorem cell_same {w w' : World} {p : Addr} (h : w'.heap[p.block]? = w.heap[p.block]?) : w'.cell? p = w.cell? p := World.cell?_of_block (w := w) h
theorem I3s.same {p : Nat → Prop} {w w' : World} {v : Value} {xs : List I3} (h : I3s p w v xs) (hs : ∀ g, p g → w'.heap[g]? = w.heap[g]?) : I3s p w' v xs :=
  SlR.imp h (fun _ h => h) fun ad x hp hr => ⟨(cell_same (p := ad) (hs _ hp)).trans hr.1, (cell_same (p := ⟨ad.block, ad.off + 1, none⟩) (hs _ hp)).trans hr.2.1, (cell_same (p := ⟨ad.block, ad.off + 2, none⟩) (hs _ hp)).trans hr.2.2⟩
theorem I3ss.same {p : Nat → Prop} {w w' : World} {v : Value} {xs : List (List I3)} (h : I3ss p w v xs) (hs : ∀ g, p g → w'.heap[g]? = w.heap[g]?) : I3ss p w' v xs :=
  SlR.imp h (fun _ h => h) fun ad x hp hr => by
    obtain ⟨u, h1, h2⟩ := hr
    exact ⟨u, (cell_same (p := ad) (hs _ hp)).trans h1, I3s.same h2 hs⟩
theorem CompMem.same {RO : Nat → Prop} {bv bq : Nat} {qv : Value} {qs : List (List QO)} {w w' : World} (h : CompMem RO bv bq qv qs w) (hs : ∀ g, RO g → w'.heap[g]? = w.heap[g]?) : CompMem RO bv bq qv qs w' :=
  ⟨(hs _ h.rbv).trans h.valid, (hs _ h.rbq).trans h.queries, h.rows.same hs, h.rbv, h.rbq⟩
set_option maxRecDepth 100000 in
set_option maxHeartbeats 4000000 in
theorem compile1_any {ch : Int → List PanicEntry} {inp : Int} {qs : List (List QO)} {RO RO' : Nat → Prop} {bv bq : Nat} {qv : Value} {fn : Nat} {gcaps : Array Value} {I : (Nat → Prop) → GS → World → Prop} {G : GS → QK → Except Int (List Int) × GS} {F : Nat → Prop} {s : GS} {w : World} {q : Nat}
    (hm : CompMem RO bv bq qv qs w) (hok : PrgOk ⟨inp, qs⟩) (hq : q < qs.length) (fam : VFam fn gcaps I RO' G ch (KeyIn inp (q : Int))) (hI : I F s w) (hRO : ∀ g, RO g → RO' g) :
    Calls Try.prog 55 (#[.agg #[.int .i64 1, .int .i64 (q : Int), .int .i64 0], .func (.func fn) #[] gcaps] ++ #[.pointer (some ⟨bv, 0, none⟩), .pointer (some ⟨bq, 0, none⟩)]) w (CPost I RO' ch F (compQ qs (1, (q : Int), 0) G s) w) := by
  obtain ⟨wa, hwa⟩ : ∃ x, x = ((w.alloc (.cells #[.int .i64 1, .int .i64 (q : Int), .int .i64 0] 27)).alloc (.cells #[.func (.func fn) #[] gcaps] 28)).alloc (.cells #[.slice none 0 0, .string ⟨#[]⟩] 31) := ⟨_, rfl⟩
  have hca : Chg [] w wa := by rw [hwa]; exact (((Chg.refl [] w).alloc _).alloc _).alloc _
  have hsa : wa.heap.size = w.heap.size + 3 := by rw [hwa]; simp
  have hbg : wa.heap[w.heap.size + 1]? = some (.cells #[.func (.func fn) #[] gcaps] 28 (0, 0)) := by
    rw [hwa]
    exact (heap_past _ _ _ (by simp)).trans (heap_at _ _ _ (by simp))
  have hkb : wa.heap[w.heap.size]? = some (.cells #[.int .i64 1, .int .i64 (q : Int), .int .i64 0] 27 (0, 0)) := by
    rw [hwa]
    exact (heap_past _ _ _ (by simp; omega)).trans ((heap_past _ _ _ (by simp)).trans (heap_at _ _ _ rfl))
  have hrb : wa.heap[w.heap.size + 2]? = some (.cells #[.slice none 0 0, .string ⟨#[]⟩] 31 (0, 0)) := by
    rw [hwa]
    exact heap_at _ _ _ (by simp)
  have hma : CompMem RO bv bq qv qs wa := hm.same fun g hg => hca.block g (Nat.lt_of_lt_of_le (fam.ro hI g (hRO g hg)) (Nat.le_refl _)) (by simp)
  have hIa := fam.keep hI (hca.p (S := fun g => F g ∧ ¬ RO' g))
  obtain ⟨av, capv, rfl, hlm, hlc⟩ := hm.rows.shape
  have lv := lt_of_obj hm.valid
  have lq := lt_of_obj hm.queries
  have lv1 : bv < w.heap.size + 1 := by omega
  have lv2 : bv < w.heap.size + 2 := by omega
  have lv3 : bv < w.heap.size + 1 + 1 := by omega
  have lq1 : bq < w.heap.size + 1 := by omega
  have lq2 : bq < w.heap.size + 2 := by omega
  have lq3 : bq < w.heap.size + 1 + 1 := by omega
  have v0w : w.cell? ⟨bv, 0, none⟩ = some (.bool true) := cell_of_heap hm.valid (i := 0) rfl
  have v1w : w.cell? ⟨bq, 0, none⟩ = some (.slice av qs.length capv) := cell_of_heap hm.queries (i := 0) rfl
  have v0 : wa.cell? ⟨bv, 0, none⟩ = some (.bool true) := cell_of_heap hma.valid (i := 0) rfl
  have v1 : wa.cell? ⟨bq, 0, none⟩ = some (.slice av qs.length capv) := cell_of_heap hma.queries (i := 0) rfl
  have e0 : wa.cell? ⟨w.heap.size, 0, none⟩ = some (.int .i64 1) := cell_of_heap hkb (i := 0) rfl
  have e1 : wa.cell? ⟨w.heap.size, 1, none⟩ = some (.int .i64 (q : Int)) := cell_of_heap hkb (i := 1) rfl
  have e2 : wa.cell? ⟨w.heap.size, 2, none⟩ = some (.int .i64 0) := cell_of_heap hkb (i := 2) rfl
  have hq1 : (q : Int) < qs.length := by omega
  have hq2 : ¬ ((q : Int) < 0) := by omega
  have hq3 : ¬ ((qs.length : Int) ≤ q) := by omega
  have Hma := Lib.hid hma
  have Hca := Lib.hid hca
  have Hm := Lib.hid hm
  have Hok := Lib.hid hok
  have Fam := Lib.hid fam
  have HIa := Lib.hid hIa
  have HI := Lib.hid hI
  have HRO := Lib.hid hRO
  have Hb := Lib.hid (And.intro hbg (And.intro hkb hrb))
  clear hma hca hm hok fam hIa hI hRO hbg hkb hrb
  go_enter Try.func55, Try.ntmps55
  go_wp2_with fail
  rw [← hwa]
  clear hwa lv1 lv2 lv3 lq1 lq2 lq3 v0w v1w
  obtain ⟨g, off, rfl, hg, u, q0, hu⟩ := SlR.at Hma.out.rows q hq []
  rw [Nat.mul_one] at q0
  obtain ⟨au, capu, rfl, hum, huc⟩ := hu.shape
  have hqk := Hok.out.qs q hq
  simp only at hqk
  obtain ⟨ops, hops⟩ : ∃ x, x = qs.getD q [] := ⟨_, rfl⟩
  rw [← hops] at q0 hum huc hu hqk
  have Hops := Lib.hid hops
  have Hu := Lib.hid hu
  have Hqk := Lib.hid hqk
  clear hu hqk hops
  refine wp_region_T (fun w' => w'.cell? ⟨bq, 0, none⟩ = some (.slice (some ⟨g, off, none⟩) qs.length capv) ∧ w'.cell? ⟨w.heap.size, 1, none⟩ = some (.int .i64 (q : Int)) ∧ w'.cell? ⟨g, off + q, none⟩ = some (.slice au ops.length capu)) 9 (by kernel_rfl) ?_
  intro wd hwd
  have hcd : Chg [] wa wd := by rw [hwd]; exact (Chg.refl _ _).drew
  have hSW := And.intro ((hcd.cell (lt_of_cell v1) (by simp)).trans v1) (And.intro ((hcd.cell (lt_of_cell e1) (by simp)).trans e1) ((hcd.cell (lt_of_cell q0) (by simp)).trans q0))
  have hbg : wd.heap[w.heap.size + 1]? = some (.cells #[.func (.func fn) #[] gcaps] 28 (0, 0)) := (hcd.block _ (by omega) (by simp)).trans Hb.out.1
  have hnr : ¬ RO' (w.heap.size + 1) := fun h => by have := Fam.out.ro HI.out _ h; omega
  have Hnr2 := Lib.hid (show ¬ RO' (w.heap.size + 2) from fun h => by have := Fam.out.ro HI.out _ h; omega)
  have hI1 := Fam.out.keep HIa.out (hcd.p (S := fun k => (F k ∨ (w.heap.size ≤ k ∧ k < wa.heap.size)) ∧ ¬ RO' k))
  have hI2 : I (fun g => (F g ∨ g = w.heap.size + 2 ∨ g = w.heap.size) ∨ g = w.heap.size + 1) s wd := Fam.out.anti hI1 fun k hk => by
    rcases hk with (hk | rfl | rfl) | rfl
    · exact Or.inl (Or.inl hk)
    · exact Or.inl (Or.inr ⟨by omega, by omega⟩)
    · exact Or.inl (Or.inr ⟨by omega, by omega⟩)
    · exact Or.inl (Or.inr ⟨by omega, by omega⟩)
  have hrun := run_any 57 #[] #[.pointer (some ⟨w.heap.size + 1, 0, none⟩)] _ _ _ _ inp (q : Int) (getq_fam Fam.out (w.heap.size + 1) (fun _ h => h)) ops Hqk.out RO (fun g => F g ∨ g = w.heap.size + 2 ∨ g = w.heap.size) s wd _ ⟨hI2, hbg, hnr⟩ (Hu.out.kept (hcd.p (S := fun _ => False)) (fun _ _ h => h)) (fun k hk => Or.inr (Or.inl (HRO.out k hk))) (fun k hk => by
    rcases hk with hk | rfl
    · exact Nat.lt_of_lt_of_le (Fam.out.ro HI.out _ hk) (Hca.out.trans hcd).size
    · exact lt_of_obj hbg)
  have Hrun := Lib.hid hrun
  have Hcd := Lib.hid (Hca.out.trans hcd)
  have Hrb := Lib.hid ((hcd.block _ (lt_of_obj Hb.out.2.2) (by simp)).trans Hb.out.2.2)
  have lx : w.heap.size < wd.heap.size := by have := hcd.size; omega
  have lg : g < wd.heap.size := lt_of_cell hSW.2.2
  have lq' : bq < wd.heap.size := lt_of_cell hSW.1
  have hmf : ∀ (fn : Fn) (first cap : Array Value) (w : World), (Instr.makeFunc fn first cap).run Try.prog w = .ok (.func fn first cap) w := fun _ _ _ _ => rfl
  clear hwd hcd hbg hnr hI1 hI2 hrun v0 v1 e0 e1 e2 q0 lv lq hq2 hq3
  refine anyT_take (i := 0) (v := .slice (some ⟨g, off, none⟩) qs.length capv) rfl (by kernel_rfl) (fun _ _ _ h => h) (Or.inl ⟨by rfl, fun w' hS => by go_simp⟩) hSW ?_
  simp only [Act.put, List.setIfInBounds_toArray, List.set_cons_zero, List.set_cons_succ]
  refine anyT_pure (i := 1) (v := .pointer (some ⟨w.heap.size, 1, none⟩)) rfl (by kernel_rfl) (fun _ _ _ h => h) (Or.inl ⟨by rfl, fun w' hS => by go_simp⟩) hSW ?_
  simp only [Act.put, List.setIfInBounds_toArray, List.set_cons_zero, List.set_cons_succ]
  refine anyT_take (i := 2) (v := .int .i64 (q : Int)) rfl (by kernel_rfl) (fun _ _ _ h => h) (Or.inl ⟨by rfl, fun w' hS => by go_simp⟩) hSW ?_
  simp only [Act.put, List.setIfInBounds_toArray, List.set_cons_zero, List.set_cons_succ]
  refine anyT_pure (i := 3) (v := .pointer (some ⟨g, off + q, none⟩)) rfl (by kernel_rfl) (fun _ _ _ h => h) (Or.inl ⟨by rfl, fun w' hS => by go_simp⟩) hSW ?_
  simp only [Act.put, List.setIfInBounds_toArray, List.set_cons_zero, List.set_cons_succ]
  refine anyT_take (i := 4) (v := .slice au ops.length capu) rfl (by kernel_rfl) (fun _ _ _ h => h) (Or.inl ⟨by rfl, fun w' hS => by go_simp⟩) hSW ?_
  simp only [Act.put, List.setIfInBounds_toArray, List.set_cons_zero, List.set_cons_succ]
  refine anyT_pure (i := 5) (v := .pointer (some ⟨w.heap.size, 1, none⟩)) rfl (by kernel_rfl) (fun _ _ _ h => h) (Or.inl ⟨by rfl, fun w' hS => by go_simp⟩) hSW ?_
  simp only [Act.put, List.setIfInBounds_toArray, List.set_cons_zero, List.set_cons_succ]
  refine anyT_take (i := 6) (v := .int .i64 (q : Int)) rfl (by kernel_rfl) (fun _ _ _ h => h) (Or.inl ⟨by rfl, fun w' hS => by go_simp⟩) hSW ?_
  simp only [Act.put, List.setIfInBounds_toArray, List.set_cons_zero, List.set_cons_succ]
  refine anyT_pure (i := 7) (v := .func (.func 57) #[] #[.pointer (some ⟨w.heap.size + 1, 0, none⟩)]) rfl (by kernel_rfl) (fun _ _ _ h => h) (Or.inl ⟨by rfl, fun w' hS => by go_simp⟩) hSW ?_
  simp only [Act.put, List.setIfInBounds_toArray, List.set_cons_zero, List.set_cons_succ]
  refine anyT_one (k := 8) (by kernel_rfl) rfl (fun K hK => ?_)
  go_simp
  refine Hrun.out.mono ?_
  intro e w6 hpost
  rcases hr : runR (gmap G) (q : Int) ops s with ⟨_ | _, s'⟩
  · rename_i x
    unfold RunPost at hpost
    rw [hr] at hpost
    obtain ⟨rfl, hI6, hc6⟩ := hpost
    refine ⟨rfl, ?_⟩
    have hC : compQ qs (1, (q : Int), 0) G s = (.error x, s') := by
      unfold compQ
      simp only [Int.toNat_natCast]
      rw [← Hops.out, hr]
    unfold CPost
    rw [hC]
    exact ⟨rfl, Fam.out.anti hI6.1 fun k h => Or.inl (Or.inl h), (Hcd.out.p (S := fun k => ¬ F k ∧ ¬ RO' k)).comp hc6 fun k hk => Or.inl ⟨fun h => hk.1 (Or.inl h), fun h => hk.2 (Or.inl h)⟩⟩
  · rename_i n
    unfold RunPost at hpost
    rw [hr] at hpost
    obtain ⟨⟨rfl, hsm⟩, hI6, hc6⟩ := hpost
    have hC : compQ qs (1, (q : Int), 0) G s = (.ok [n], s') := by
      unfold compQ
      simp only [Int.toNat_natCast]
      rw [← Hops.out, hr]
    have hrb := (hc6.block _ (lt_of_obj Hrb.out) (fun h => h.1 (Or.inr (Or.inl rfl)))).trans Hrb.out
    have Hrb6 := Lib.hid hrb
    have HC := Lib.hid hC
    have HI6 := Lib.hid hI6.1
    have Hc6 := Lib.hid hc6
    have c0 : w6.cell? ⟨w.heap.size + 1 + 1, 0, none⟩ = some (.slice none 0 0) := cell_of_heap hrb (i := 0) rfl
    have c1 : w6.cell? ⟨w.heap.size + 1 + 1, 1, none⟩ = some (.string ⟨#[]⟩) := cell_of_heap hrb (i := 1) rfl
    have f0 : w6.frozen? ⟨w.heap.size + 1 + 1, 0, none⟩ = false := frozen_of_heap (i := 0) hrb
    have f1 : w6.frozen? ⟨w.heap.size + 1 + 1, 1, none⟩ = false := frozen_of_heap (i := 1) hrb
    have lr : w.heap.size + 1 + 1 < w6.heap.size := lt_of_obj hrb
    have lr1 : w.heap.size + 1 + 1 < w6.heap.size + 1 := by omega
    have hS6 := And.intro ((hc6.cell (lt_of_cell hSW.1) (fun h => h.2 (Or.inl (HRO.out _ Hm.out.rbq)))).trans hSW.1) (And.intro ((hc6.cell (lt_of_cell hSW.2.1) (fun h => h.1 (Or.inr (Or.inr rfl)))).trans hSW.2.1) ((hc6.cell (lt_of_cell hSW.2.2) (fun h => h.2 (Or.inl (HRO.out _ hg)))).trans hSW.2.2))
    clear hrb hC hI6 hc6 hSW lx lg lq'
    refine hK _ _ (fun _ => hS6) ?_
    clear hK K hS6
    refine anyT_one (k := 9) (by kernel_rfl) rfl (fun K hK => ?_)
    go_simp
    refine hK _ _ (fun h => by simp at h) ?_
    clear hK K
    refine anyT_done (by kernel_rfl) ?_
    go_wp2_with fail
    obtain ⟨w7, hw7⟩ : ∃ x, x = ((w6.setCell ⟨w.heap.size + 1 + 1, 0, none⟩ (.slice (some ⟨w6.heap.size, 0, none⟩) 1 1)).setCell ⟨w.heap.size + 1 + 1, 1, none⟩ (.string ⟨#[]⟩)).alloc (.cells #[.int .i64 n] 3) := ⟨_, rfl⟩
    have hch : ChgP (fun k => k = w.heap.size + 2) w6 w7 := by
      rw [hw7]
      exact (((ChgP.refl (fun k => k = w.heap.size + 2) w6).setCell (p := ⟨w.heap.size + 1 + 1, 0, none⟩) (Or.inl rfl) _).setCell (p := ⟨w.heap.size + 1 + 1, 1, none⟩) (Or.inl rfl) _).alloc _
    have hrow : w7.heap[w6.heap.size]? = some (.cells #[.int .i64 n] 3 (0, 0)) := by
      rw [hw7]
      exact heap_at _ _ _ (by simp [World.setCell])
    have hres : w7.heap[w.heap.size + 2]? = some (.cells #[.slice (some ⟨w6.heap.size, 0, none⟩) 1 1, .string ⟨#[]⟩] 31 (0, 0)) := by
      rw [hw7]
      refine (heap_past _ _ _ (by simp [World.setCell]; omega)).trans ?_
      exact (heap_setCell_same (heap_setCell_same Hrb6.out _) _).trans rfl
    rw [← hw7]
    have d0 : w7.cell? ⟨w.heap.size + 1 + 1, 0, none⟩ = some (.slice (some ⟨w6.heap.size, 0, none⟩) 1 1) := cell_of_heap hres (i := 0) rfl
    have d1 : w7.cell? ⟨w.heap.size + 1 + 1, 1, none⟩ = some (.string ⟨#[]⟩) := cell_of_heap hres (i := 1) rfl
    have Hch := Lib.hid hch
    have Hrow := Lib.hid hrow
    clear hw7 hch hrow hres c0 c1 f0 f1
    refine bodyPost_ret (v := .agg #[.slice (some ⟨w6.heap.size, 0, none⟩) 1 1, .string ⟨#[]⟩]) (by simp [results, Try.results55, go_sem, d0, d1]) rfl ?_
    unfold CPost
    rw [HC.out]
    refine ⟨⟨_, _, rfl, Or.inr ⟨w6.heap.size, 0, 1, #[.int .i64 n], (0, 0), rfl, by simp, by unfold maxLen; omega, Hrow.out, by simp⟩, by simp⟩, ?_, ?_⟩
    · exact Fam.out.anti (Fam.out.keep HI6.out (Hch.out.mono (T := fun k => ((F k ∨ k = w.heap.size + 2 ∨ k = w.heap.size) ∨ k = w.heap.size + 1) ∧ ¬ RO' k) fun k hk => ⟨Or.inl (Or.inr (Or.inl hk)), hk ▸ Hnr2.out⟩)) fun k hk => Or.inl (Or.inl (Or.inl hk))
    · exact (((Hcd.out.p (S := fun k => ¬ F k ∧ ¬ RO' k)).comp Hc6.out fun k hk => Or.inl ⟨fun h => hk.1 (Or.inl h), fun h => hk.2 (Or.inl h)⟩)).comp Hch.out fun k hk => Or.inr (by omega)
end Go.Proofs.Ytdeodcomlakpaaa
