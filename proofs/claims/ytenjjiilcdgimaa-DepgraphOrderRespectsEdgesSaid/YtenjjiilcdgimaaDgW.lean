/- DepgraphOrderRespectsEdges. -/
import Derived.Test.YtenjjiilcdgimaaDgV
namespace Go.Proofs.Ytenjjiilcdgimaa
open Go.RowKit Go.ChangeMaps Go.MapKept Go.Shelf
set_option linter.unusedVariables false
set_option linter.unusedSimpArgs false
theorem edC {W : World} {n : Nat} {f0 f1 f2 t0 t1 t2 : Int} (h : W.heap[n]? = some (.cells #[.int .i64 f0, .int .i64 f1, .int .i64 f2, .int .i64 t0, .int .i64 t1, .int .i64 t2] 37 (0, 0))) :
    W.cell? ⟨n, 0, none⟩ = some (.int .i64 f0) ∧ W.cell? ⟨n, 1, none⟩ = some (.int .i64 f1) ∧ W.cell? ⟨n, 2, none⟩ = some (.int .i64 f2) ∧ W.cell? ⟨n, 3, none⟩ = some (.int .i64 t0) ∧ W.cell? ⟨n, 4, none⟩ = some (.int .i64 t1) ∧ W.cell? ⟨n, 5, none⟩ = some (.int .i64 t2) :=
  ⟨cell_of_heap h rfl, cell_of_heap h rfl, cell_of_heap h rfl, cell_of_heap h rfl, cell_of_heap h rfl, cell_of_heap h rfl⟩
set_option maxRecDepth 100000 in
set_option maxHeartbeats 16000000 in
theorem order_any (w : World) (p : Nat → Prop) (v : Value) (E0 : List Ed) (h0 : EdP p w v E0) (hok0 : EdOk E0) :
    Calls Try.prog 4 #[v] w fun e w' => e = .returned (.bool true) ∧ Chg [] w w' := by
  obtain ⟨a, cap, rfl, hml, hcp⟩ := SlR.shape h0
  obtain ⟨n, hn⟩ : ∃ n, n = min E0.length 50 := ⟨_, rfl⟩
  have hmi : min (E0.length : Int) 50 = (n : Int) := by omega
  have hnl : n ≤ E0.length := by omega
  have hn50 : n ≤ 50 := by omega
  obtain ⟨E, hE⟩ : ∃ E, E = E0.take n := ⟨_, rfl⟩
  have hl : E.length ≤ 100 := by rw [hE, List.length_take]; omega
  have hel : E.length = n := by rw [hE, List.length_take]; omega
  have hed : EdP p w (.slice a n cap) E := by rw [hE]; exact h0.take n hnl
  have hok : EdOk E := by rw [hE]; exact hok0.take n
  have hnc : n ≤ cap := by omega
  have hks := (ks_spec E).2.2
  have hkl : (ks E).length ≤ 100 := by omega
  have He := Lib.hid (And.intro hed (And.intro hl (And.intro hok hel)))
  unfold maxLen at hml
  clear h0 hok0 hn hE hl hel hed hok hks
  go_enter Try.func4, Try.ntmps4
  go_wp2_with fail
  refine (graphExample_any w).mono ?_
  rintro e w2 ⟨rfl, hc2⟩
  have Hc2 := Lib.hid hc2
  clear hc2
  go_wp2_with fail
  refine (topo_any p w2 _ E (He.out.1.same Hc2.out) He.out.2.1 He.out.2.2.1).mono fun e w3 h3 => ?_
  obtain ⟨ao, co, O, eo, rfl, hc3, hio, ho⟩ := h3.two
  have H3 := Lib.hid (And.intro hc3 (And.intro hio (And.intro ho (Hc2.out.trans hc3))))
  have hom := hio.shape
  have hol : O.length ≤ maxLen := by obtain ⟨_, _, h, h1, _⟩ := hom; exact h1
  unfold maxLen at hol
  clear h3 hc3 hio ho hom
  go_wp2_with fail
  refine (levels_any p w3 _ E (He.out.1.same H3.out.2.2.2) He.out.2.1 He.out.2.2.1).mono fun e w4 h4 => ?_
  obtain ⟨al, cl, Ls, el, rfl, hc4, hil, hle⟩ := h4.two
  have H4 := Lib.hid (And.intro hc4 (And.intro hil (And.intro hle (H3.out.2.2.2.trans hc4))))
  have hll : Ls.length ≤ maxLen := by obtain ⟨_, _, h, h1, _⟩ := hil.shape; exact h1
  unfold maxLen at hll
  clear h4 hc4 hil hle
  go_wp2_with fail
  go_loopw [7, 35] (fun v7 i wr => ∃ (j : Nat) (b : Bool), j ≤ n ∧ i = .int .i64 (j : Nat) ∧ v7 = .bool b ∧ Hid (Chg [] w4 wr) ∧ Hid (b = true ↔ ∃ e ∈ E.take j, Reach E e.1 e.1)) (fun _ i _ => n - (intOf i).toNat)
  case atStart => exact ⟨0, false, by omega, rfl, rfl, Lib.hid (Chg.refl _ _), Lib.hid (by simp)⟩
  case round =>
    obtain ⟨j, b, hj, rfl, rfl, Hcw, Hb⟩ := hrel
    by_cases hlt : j < n
    · have hj1 : (j : Int) < n := by omega
      have hjE : j < E.length := by have := He.out.2.2.2; omega
      have hE5 := (He.out.1.same (H4.out.2.2.2.trans Hcw.out))
      rw [← He.out.2.2.2] at hE5
      obtain ⟨g, off, rfl, _, c0, c1, c2, c3, c4, c5⟩ := hE5.cells j hjE
      have hok := He.out.2.2.1 _ (getD_memEd hjE)
      have htk := fold_take_snoc E j hjE e0
      obtain ⟨ed, hed⟩ : ∃ e, E.getD j e0 = e := ⟨_, rfl⟩
      rw [hed] at c0 c1 c2 c3 c4 c5 hok htk
      obtain ⟨⟨f0, f1, f2⟩, t0, t1, t2⟩ := ed
      simp only at c0 c1 c2 c3 c4 c5
      have lc := lt_of_cell c0
      have Htk := Lib.hid (And.intro htk hok)
      obtain ⟨w5, hw5⟩ : ∃ q, q = wr.alloc (.cells #[.int .i64 f0, .int .i64 f1, .int .i64 f2, .int .i64 t0, .int .i64 t1, .int .i64 t2] 37) := ⟨_, rfl⟩
      obtain ⟨n5, hn5⟩ : ∃ n, n = wr.heap.size := ⟨_, rfl⟩
      have hc5 : Chg [] wr w5 := by rw [hw5]; exact (Chg.refl [] wr).alloc _
      have hb5 : w5.heap[n5]? = some (.cells #[.int .i64 f0, .int .i64 f1, .int .i64 f2, .int .i64 t0, .int .i64 t1, .int .i64 t2] 37 (0, 0)) := by rw [hw5, hn5]; exact heap_at _ _ _ rfl
      have x0 : w5.cell? ⟨n5, 0, none⟩ = some (.int .i64 f0) := cell_of_heap hb5 rfl
      have x1 : w5.cell? ⟨n5, 1, none⟩ = some (.int .i64 f1) := cell_of_heap hb5 rfl
      have x2 : w5.cell? ⟨n5, 2, none⟩ = some (.int .i64 f2) := cell_of_heap hb5 rfl
      have lx := lt_of_cell x0
      have HW5 := Lib.hid (And.intro hw5 hn5)
      have H5 := Lib.hid (And.intro hc5 hb5)
      clear hed htk hok hE5 hw5 hn5 hc5 hb5
      cases b
      · go_upto_region 10 with (fail)
        rw [← HW5.out.1, ← HW5.out.2]
        have HD := Lib.hid (show ∀ W, Chg [] w5 W → Calls Try.prog 7 #[.slice (some ⟨g, off, none⟩) n cap, .agg #[.int .i64 f0, .int .i64 f1, .int .i64 f2]] W (RchPost W E (f0, f1, f2)) from
          fun W hW => deps_any p W _ E (f0, f1, f2) (He.out.1.same (H4.out.2.2.2.trans (Hcw.out.trans (H5.out.1.trans hW)))) He.out.2.1 He.out.2.2.1 Htk.out.2.1)
        clear c0 c1 c2 c3 c4 c5 lc
        go_region_held3 (fun W => W.cell? ⟨n5, 0, none⟩ = some (.int .i64 f0) ∧ W.cell? ⟨n5, 1, none⟩ = some (.int .i64 f1) ∧ W.cell? ⟨n5, 2, none⟩ = some (.int .i64 f2))
          (first | (go_keep; done) | (exact ⟨q0, q1, q2⟩) | (exact ⟨r0, r1, r2⟩))
          (first
            | (go_at_call 7; (with_reducible refine (HD.out _ ?_).mono ?_); (first | exact (Chg.refl [] w5).drew | fail); rintro e w6 ⟨v6, l6, rfl, hi, hd, hc⟩; have hc6 : Chg [] w5 w6 := (Chg.refl [] w5).drew.trans hc; have q0 : w6.cell? ⟨n5, 0, none⟩ = some (.int .i64 f0) := cell_of_heap ((hc6.block _ (lt_of_obj H5.out.2) (by simp)).trans H5.out.2) rfl; have q1 : w6.cell? ⟨n5, 1, none⟩ = some (.int .i64 f1) := cell_of_heap ((hc6.block _ (lt_of_obj H5.out.2) (by simp)).trans H5.out.2) rfl; have q2 : w6.cell? ⟨n5, 2, none⟩ = some (.int .i64 f2) := cell_of_heap ((hc6.block _ (lt_of_obj H5.out.2) (by simp)).trans H5.out.2) rfl; have hcn := refContainsK _ w6 v6 l6 (f0, f1, f2) hi (fun g hg => hg.2); simp only [i3v] at hcn; have H6 := Lib.hid (And.intro hd hc6); have Hcn := Lib.hid hcn; clear hi hd hc hc6 hcn)
            | (go_at_call 8; (with_reducible refine Hcn.out.mono ?_); rintro e w7 ⟨rfl, hc⟩; have hc7 := H6.out.2.trans hc; have r0 : w7.cell? ⟨n5, 0, none⟩ = some (.int .i64 f0) := cell_of_heap ((hc7.block _ (lt_of_obj H5.out.2) (by simp)).trans H5.out.2) rfl; have r1 : w7.cell? ⟨n5, 1, none⟩ = some (.int .i64 f1) := cell_of_heap ((hc7.block _ (lt_of_obj H5.out.2) (by simp)).trans H5.out.2) rfl; have r2 : w7.cell? ⟨n5, 2, none⟩ = some (.int .i64 f2) := cell_of_heap ((hc7.block _ (lt_of_obj H5.out.2) (by simp)).trans H5.out.2) rfl; have H7 := Lib.hid hc7; clear hc hc7))
        all_goals
          go_wp2_with fail
          refine ⟨⟨j + 1, _, by omega, by go_num, rfl, Lib.hid (Hcw.out.trans (H5.out.1.trans H7.out)), Lib.hid ?_⟩, by simp [intOf]; omega⟩
          rw [decide_eq_true_iff, H6.out.1.2, Htk.out.1]
          constructor
          · intro hr
            exact ⟨_, List.mem_append.2 (Or.inr (List.mem_singleton.2 rfl)), hr⟩
          · rintro ⟨e, he, hr⟩
            rcases List.mem_append.1 he with he | he
            · exact absurd (Hb.out.2 ⟨e, he, hr⟩) (by simp)
            · rw [List.mem_singleton.1 he] at hr
              exact hr
      · go_upto_region 10 with (fail)
        rw [← HW5.out.1, ← HW5.out.2]
        go_quiet (fail)
        go_wp2_with fail
        refine ⟨⟨j + 1, true, by omega, by go_num, rfl, Lib.hid (Hcw.out.trans (H5.out.1.drewN _)), Lib.hid ?_⟩, by simp [intOf]; omega⟩
        obtain ⟨e, he, hr⟩ := Hb.out.1 rfl
        exact ⟨fun _ => ⟨e, by rw [Htk.out.1]; exact List.mem_append.2 (Or.inl he), hr⟩, fun _ => rfl⟩
    · have hj1 : ¬ ((j : Int) < n) := by omega
      have hta : E.take j = E := List.take_of_length_le (by have := He.out.2.2.2; omega)
      rw [hta] at Hb
      have Hcw4 := Lib.hid (H4.out.2.2.2.trans Hcw.out)
      clear hta
      cases b
      · have hac : ¬ ∃ x, Reach E x x := by
          rintro ⟨x, hx⟩
          exact absurd (Hb.out.2 (cyc_from hx)) (by simp)
        obtain ⟨rfl, ht, hlo⟩ : eo = 0 ∧ TopI E O ∧ O.length = (ks E).length := H3.out.2.2.1.resolve_left fun h => hac h.2
        obtain ⟨rfl, hf, hlf, hlk⟩ : el = 0 ∧ TopI E Ls.flatten ∧ Ls.flatten.length = (ks E).length ∧ Ls.length ≤ (ks E).length := H4.out.2.2.1.resolve_left fun h => hac h.2
        have HT := Lib.hid (And.intro ht (And.intro hlo (And.intro hf hlf)))
        have hlo2 : O.length ≤ 100 := by omega
        have hcwl := H4.out.2.2.2.trans Hcw.out
        have hil := H4.out.2.1.kept (Hcw.out.p (S := fun _ => False)) (fun _ _ h => h)
        have hio := i3s_same H3.out.2.1 (H4.out.1.trans Hcw.out)
        obtain ⟨wb, hwb⟩ : ∃ q, q = wr := ⟨_, rfl⟩
        rw [← hwb] at hil hio
        have Hw := Lib.hid (And.intro hil (And.intro hio hwb))
        clear hac ht hlo hf hcwl hil hio hwb hj1
        go_wp2_with fail
        go_loopw [10, 62] (fun v10 i wx => ∃ (m : Nat) (F : List I3) (a10 : Option Addr) (c10 : Nat), m ≤ Ls.length ∧ i = .int .i64 (m : Nat) ∧ v10 = .slice a10 F.length c10 ∧ Hid (F = (Ls.take m).flatten) ∧ Hid (OwnK wx wb.heap.size v10 F ∧ Chg [] wb wx)) (fun _ i _ => Ls.length - (intOf i).toNat)
        case atStart => exact ⟨0, [], none, 0, by omega, rfl, rfl, Lib.hid rfl, Lib.hid ⟨OwnK.nil _ _, by rw [Hw.out.2.2]; exact Chg.refl _ _⟩⟩
        case round =>
          obtain ⟨m, F, a10, c10, hm, rfl, rfl, HFe, HF⟩ := hrel
          by_cases hml : m < Ls.length
          · have hm1 : (m : Int) < Ls.length := by omega
            obtain ⟨gl, ol, rfl, _, u, hu, hus⟩ := SlR.at (Hw.out.1.kept (HF.out.2.p (S := fun _ => False)) (fun _ _ h => h)) m hml []
            have hfl := flat_take_le Ls m hml
            rw [← HFe.out] at hfl
            have hge : Ls.getD m [] = Ls[m] := by simp [hml]
            rw [hge] at hus
            rw [Nat.mul_one] at hu
            obtain ⟨au, cu, rfl, hul, huc⟩ := hus.shape
            have lu := lt_of_cell hu
            obtain ⟨v8, w8, hr8, ho8, hc8⟩ := run_append_i3s wr 26 wb.heap.size _ _ _ F Ls[m] HF.out.1 hus (by omega) HF.out.2.size
            obtain ⟨a8, c8, rfl⟩ := ownsRow_shape ho8
            have htk : F ++ Ls[m] = (Ls.take (m + 1)).flatten := by rw [List.take_succ_eq_append_getElem hml, flat_snoc, HFe.out]
            obtain ⟨q, hq⟩ : ∃ q, q = (F ++ Ls[m]).length := ⟨_, rfl⟩
            rw [← hq] at hr8
            have H8 := Lib.hid (show OwnK w8 wb.heap.size (.slice a8 q c8) (F ++ Ls[m]) ∧ Chg [] wb w8 from ⟨by rw [hq]; exact ho8, HF.out.2.comp hc8 fun g hg => Or.inr (HF.out.1.lt g (by simpa using hg)).1⟩)
            have Hr8 := Lib.hid hr8
            have Htk := Lib.hid (And.intro htk hq)
            clear hfl hge hus hr8 ho8 hc8 htk hq
            go_wp2_with (at_builtin; refine wpList_append_run rfl _ _ _ rfl _ _ _ _ rfl rfl Hr8.out ?_)
            exact ⟨⟨m + 1, _, a8, c8, by omega, by go_num, by rw [Htk.out.2], Lib.hid Htk.out.1, H8⟩, by simp [intOf]; omega⟩
          · have hm1 : ¬ ((m : Int) < Ls.length) := by omega
            have hta : Ls.take m = Ls := List.take_of_length_le (by omega)
            rw [hta] at HFe
            obtain ⟨wc, hwc⟩ : ∃ q, q = wr := ⟨_, rfl⟩
            have hHF := HF.out
            rw [← hwc] at hHF
            have hFl : F.length = (ks E).length := by rw [HFe.out, hlf]
            have hFm : F.length ≤ 100 := by omega
            have HFl := Lib.hid hFl
            clear hFl
            have HC := Lib.hid (And.intro hHF.1.i3s (And.intro (i3s_same Hw.out.2.1 hHF.2) (And.intro hHF.2 hwc)))
            have HTF := Lib.hid (show TopI E F by rw [HFe.out]; exact HT.out.2.2.1)
            clear hHF hwc hta HF
            have HO := Lib.hid (show ∀ W, Chg [] wc W → ∀ k0 k1 k2, (k0, k1, k2) ∈ O → Calls Try.prog 12 #[.slice ao O.length co, .agg #[.int .i64 k0, .int .i64 k1, .int .i64 k2]] W fun e w' => e = .returned (.int .i64 (idx O (k0, k1, k2) : Nat)) ∧ Chg [] W w' from
              fun W hW k0 k1 k2 hk => by
                have := refIndexK _ W _ O (k0, k1, k2) (i3s_same HC.out.2.1 hW) (fun g hg => Nat.lt_of_lt_of_le hg.2 (Nat.le_trans (H4.out.1.trans Hcw.out).size (by rw [← Hw.out.2.2]; exact (HC.out.2.2.1.trans hW).size)))
                rw [fidx_idx hk] at this
                exact this)
            have HG := Lib.hid (show ∀ W, Chg [] wc W → ∀ k0 k1 k2, (k0, k1, k2) ∈ F → Calls Try.prog 12 #[.slice a10 F.length c10, .agg #[.int .i64 k0, .int .i64 k1, .int .i64 k2]] W fun e w' => e = .returned (.int .i64 (idx F (k0, k1, k2) : Nat)) ∧ Chg [] W w' from
              fun W hW k0 k1 k2 hk => by
                have := refIndexK _ W _ F (k0, k1, k2) (i3s_same HC.out.1 hW) (fun g hg => Nat.lt_of_lt_of_le hg.2.1 hW.size)
                rw [fidx_idx hk] at this
                exact this)
            go_wp2_with fail
            go_loopw [72] (fun i wx => ∃ m : Nat, m ≤ n ∧ i = .int .i64 (m : Nat) ∧ Hid (Chg [] wc wx)) (fun i _ => n - (intOf i).toNat)
            case atStart => exact ⟨0, by omega, rfl, Lib.hid (by rw [HC.out.2.2.2]; exact Chg.refl _ _)⟩
            case round =>
              obtain ⟨r, hr, rfl, Hcr⟩ := hrel
              by_cases hlt : r < n
              · have hj1 : (r : Int) < n := by omega
                have hjE : r < E.length := by have := He.out.2.2.2; omega
                have hwb0 := Hw.out.2.2
                have hE5 := (He.out.1.same (H4.out.2.2.2.trans (Hcw.out.trans (by rw [← hwb0]; exact HC.out.2.2.1.trans Hcr.out))))
                rw [← He.out.2.2.2] at hE5
                obtain ⟨g, off, rfl, _, c0, c1, c2, c3, c4, c5⟩ := hE5.cells r hjE
                have hmem := getD_memEd hjE
                obtain ⟨ed, hed⟩ : ∃ e, E.getD r e0 = e := ⟨_, rfl⟩
                rw [hed] at c0 c1 c2 c3 c4 c5 hmem
                obtain ⟨⟨f0, f1, f2⟩, t0, t1, t2⟩ := ed
                simp only at c0 c1 c2 c3 c4 c5
                have lc := lt_of_cell c0
                obtain ⟨w5, hw5⟩ : ∃ q, q = wr.alloc (.cells #[.int .i64 f0, .int .i64 f1, .int .i64 f2, .int .i64 t0, .int .i64 t1, .int .i64 t2] 37) := ⟨_, rfl⟩
                obtain ⟨n5, hn5⟩ : ∃ n, n = wr.heap.size := ⟨_, rfl⟩
                have hc5 : Chg [] wc w5 := Hcr.out.trans (by rw [hw5]; exact (Chg.refl [] wr).alloc _)
                have hb5 : w5.heap[n5]? = some (.cells #[.int .i64 f0, .int .i64 f1, .int .i64 f2, .int .i64 t0, .int .i64 t1, .int .i64 t2] 37 (0, 0)) := by rw [hw5, hn5]; exact heap_at _ _ _ rfl
                obtain ⟨x0, x1, x2, x3, x4, x5⟩ := edC hb5
                have lx := lt_of_cell x0
                have hfO := HT.out.1.full HT.out.2.1
                have hfF := HTF.out.full HFl.out
                have hkt : (t0, t1, t2) ∈ ks E := ((ks_spec E).2.1 _).2 ⟨_, hmem, Or.inr rfl⟩
                have hkf : (f0, f1, f2) ∈ ks E := ((ks_spec E).2.1 _).2 ⟨_, hmem, Or.inl rfl⟩
                have hr1 := Int.ofNat_lt.2 (HT.out.1.edge hfO hmem).1
                have hr2 := Int.ofNat_lt.2 (HTF.out.edge hfF hmem).1
                obtain ⟨zot, hzot⟩ : ∃ z : Int, z = ((idx O (t0, t1, t2) : Nat) : Int) := ⟨_, rfl⟩
                obtain ⟨zof, hzof⟩ : ∃ z : Int, z = ((idx O (f0, f1, f2) : Nat) : Int) := ⟨_, rfl⟩
                obtain ⟨zft, hzft⟩ : ∃ z : Int, z = ((idx F (t0, t1, t2) : Nat) : Int) := ⟨_, rfl⟩
                obtain ⟨zff, hzff⟩ : ∃ z : Int, z = ((idx F (f0, f1, f2) : Nat) : Int) := ⟨_, rfl⟩
                have HOT := Lib.hid (fun W hW => HO.out W hW t0 t1 t2 (hfO _ hkt))
                have HOF := Lib.hid (fun W hW => HO.out W hW f0 f1 f2 (hfO _ hkf))
                have HGT := Lib.hid (fun W hW => HG.out W hW t0 t1 t2 (hfF _ hkt))
                have HGF := Lib.hid (fun W hW => HG.out W hW f0 f1 f2 (hfF _ hkf))
                have hp1 : 0 ≤ zot := by rw [hzot]; exact Int.natCast_nonneg _
                have hp2 : 0 ≤ zft := by rw [hzft]; exact Int.natCast_nonneg _
                rw [← hzot] at HOT hr1
                rw [← hzof] at HOF hr1
                rw [← hzft] at HGT hr2
                rw [← hzff] at HGF hr2
                have d1 : decide (zot < 0) = false := decide_eq_false (by omega)
                have d2 : decide (zof ≤ zot) = false := decide_eq_false (by omega)
                have d3 : decide (zft < 0) = false := decide_eq_false (by omega)
                have d4 : decide (zff ≤ zft) = false := decide_eq_false (by omega)
                have HW5 := Lib.hid (And.intro hw5 hn5)
                have H5 := Lib.hid (And.intro hc5 hb5)
                clear hed hmem hE5 hw5 hn5 hc5 hb5 hfO hfF hkt hkf hr1 hr2 hzot hzof hzft hzff hwb0 hp1 hp2
                go_upto_region 23 with (fail)
                rw [← HW5.out.1, ← HW5.out.2]
                clear c0 c1 c2 c3 c4 c5 lc
                go_region_held3 (fun W => W.cell? ⟨n5, 0, none⟩ = some (.int .i64 f0) ∧ W.cell? ⟨n5, 1, none⟩ = some (.int .i64 f1) ∧ W.cell? ⟨n5, 2, none⟩ = some (.int .i64 f2) ∧ W.cell? ⟨n5, 3, none⟩ = some (.int .i64 t0) ∧ W.cell? ⟨n5, 4, none⟩ = some (.int .i64 t1) ∧ W.cell? ⟨n5, 5, none⟩ = some (.int .i64 t2))
                  (first | (go_keep; done) | (exact edC ((C6.out.block _ (lt_of_obj H5.out.2) (by simp)).trans H5.out.2)) | (exact edC ((C5.out.block _ (lt_of_obj H5.out.2) (by simp)).trans H5.out.2)) | (exact edC ((C4.out.block _ (lt_of_obj H5.out.2) (by simp)).trans H5.out.2)) | (exact edC ((C3.out.block _ (lt_of_obj H5.out.2) (by simp)).trans H5.out.2)) | (exact edC ((C2.out.block _ (lt_of_obj H5.out.2) (by simp)).trans H5.out.2)) | (exact edC ((C1.out.block _ (lt_of_obj H5.out.2) (by simp)).trans H5.out.2)))
                  (first
                    | (go_at_call 12; (with_reducible refine (HOT.out _ ?_).mono ?_); (first | exact H5.out.1.drew | fail); rintro e w6 ⟨rfl, hc⟩; have C1 : Hid (Chg [] w5 w6) := Lib.hid ((Chg.refl [] w5).drew.trans hc); clear hc)
                    | (go_at_call 12; (with_reducible refine (HOT.out _ ?_).mono ?_); (first | exact H5.out.1.trans C1.out | fail); rintro e w7 ⟨rfl, hc⟩; have C2 : Hid (Chg [] w5 w7) := Lib.hid (C1.out.trans hc); clear hc)
                    | (go_at_call 12; (with_reducible refine (HOF.out _ ?_).mono ?_); (first | exact H5.out.1.trans C2.out | fail); rintro e w8 ⟨rfl, hc⟩; have C3 : Hid (Chg [] w5 w8) := Lib.hid (C2.out.trans hc); clear hc)
                    | (go_at_call 12; (with_reducible refine (HGT.out _ ?_).mono ?_); (first | exact H5.out.1.trans C3.out | fail); rintro e w9 ⟨rfl, hc⟩; have C4 : Hid (Chg [] w5 w9) := Lib.hid (C3.out.trans hc); clear hc)
                    | (go_at_call 12; (with_reducible refine (HGT.out _ ?_).mono ?_); (first | exact H5.out.1.trans C4.out | fail); rintro e w10 ⟨rfl, hc⟩; have C5 : Hid (Chg [] w5 w10) := Lib.hid (C4.out.trans hc); clear hc)
                    | (go_at_call 12; (with_reducible refine (HGF.out _ ?_).mono ?_); (first | exact H5.out.1.trans C5.out | fail); rintro e w11 ⟨rfl, hc⟩; have C6 : Hid (Chg [] w5 w11) := Lib.hid (C5.out.trans hc); clear hc))
                all_goals
                  go_wp2_with fail
                  exact ⟨⟨r + 1, by omega, by go_num, Lib.hid (H5.out.1.trans C6.out)⟩, by simp [intOf]; omega⟩
              · have hj1 : ¬ ((r : Int) < n) := by omega
                obtain ⟨wd, hwd⟩ : ∃ q, q = wr := ⟨_, rfl⟩
                have HD := Lib.hid Hcr.out
                rw [← hwd] at HD
                have HE := Lib.hid hwd
                clear hwd Hcr
                go_wp2_with fail
                go_loopw [113] (fun i wx => ∃ m : Nat, m ≤ O.length ∧ i = .int .i64 (m : Nat) ∧ Hid (Chg [] wd wx)) (fun i _ => O.length - (intOf i).toNat)
                case atStart => exact ⟨0, by omega, rfl, Lib.hid (by rw [HE.out]; exact Chg.refl _ _)⟩
                case round =>
                  obtain ⟨s, hs, rfl, Hcs⟩ := hrel
                  by_cases hlt : s < O.length
                  · have hj1 : (s : Int) < O.length := by omega
                    have hj0 : (0 : Int) ≤ (s : Int) := by omega
                    obtain ⟨g, off, rfl, _, q0, q1, q2⟩ := SlR.at (i3s_same HC.out.2.1 (HD.out.trans Hcs.out)) s hlt (0, 0, 0)
                    obtain ⟨y, hy⟩ : ∃ y, O.getD s (0, 0, 0) = y := ⟨_, rfl⟩
                    have hym : y ∈ O := by rw [← hy]; exact getD_memb hlt _
                    have hyi : idx O y = s := by
                      rw [← hy, List.getD_eq_getElem?_getD, List.getElem?_eq_getElem hlt]
                      exact idx_at HT.out.1.nd s hlt
                    have hyF : y ∈ F := HTF.out.full HFl.out y (HT.out.1.sub y hym)
                    rw [hy] at q0 q1 q2
                    obtain ⟨y0, y1, y2⟩ := y
                    simp only at q0 q1 q2
                    have hix := HO.out wr (HD.out.trans Hcs.out) y0 y1 y2 hym
                    rw [hyi] at hix
                    have Hix := Lib.hid hix
                    have HCn := Lib.hid (show ∀ W, Chg [] wc W → Calls Try.prog 8 #[.slice a10 F.length c10, .agg #[.int .i64 y0, .int .i64 y1, .int .i64 y2]] W fun e w' => e = .returned (.bool true) ∧ Chg [] W w' from fun W hW => by
                      have := refContainsK _ W _ F (y0, y1, y2) (i3s_same HC.out.1 hW) (fun g hg => Nat.lt_of_lt_of_le hg.2.1 hW.size)
                      rw [decide_eq_true hyF] at this
                      exact this)
                    have lq := lt_of_cell q0
                    have hne : ((s : Int) != (s : Int)) = false := by simp
                    have H9 := Lib.hid (HD.out.trans Hcs.out)
                    clear hy hym hyi hyF hix
                    go_wp2_with fail
                    refine Hix.out.mono ?_
                    rintro e w6 ⟨rfl, hc6⟩
                    have r0 := (hc6.cell lq (by simp)).trans q0
                    have r1 := (hc6.cell (p := ⟨g, off + s * 3 + 1, none⟩) lq (by simp)).trans q1
                    have r2 := (hc6.cell (p := ⟨g, off + s * 3 + 2, none⟩) lq (by simp)).trans q2
                    have lr := lt_of_cell r0
                    have H6 := Lib.hid (H9.out.trans hc6)
                    have H6' := Lib.hid (Hcs.out.trans hc6)
                    clear hc6 q0 q1 q2 lq
                    go_wp2_with fail
                    refine (HCn.out _ H6.out).mono ?_
                    rintro e w7 ⟨rfl, hc7⟩
                    have H7 := Lib.hid (H6'.out.trans hc7)
                    clear hc7 r0 r1 r2 lr
                    go_wp2_with fail
                    exact ⟨⟨s + 1, by omega, by go_num, H7⟩, by simp [intOf]; omega⟩
                  · have hj1 : ¬ ((s : Int) < O.length) := by omega
                    have hwb0 := Hw.out.2.2
                    have hfin : Chg [] w wr := H4.out.2.2.2.trans (Hcw.out.trans (by rw [← hwb0]; exact HC.out.2.2.1.trans (HD.out.trans Hcs.out)))
                    have Hfin := Lib.hid hfin
                    have hleq : (O.length : Int) = (F.length : Int) := by have := HT.out.2.1; have := HFl.out; omega
                    have Hleq := Lib.hid hleq
                    have hleb : ((O.length : Int) == (F.length : Int)) = true := by simp; omega
                    clear hleq
                    clear hwb0 hfin
                    go_wp2_with fail
                    refine (graphExample_any wr).mono ?_
                    rintro e w7 ⟨rfl, hc7⟩
                    have H7 := Lib.hid (Hfin.out.trans hc7)
                    clear hc7
                    go_wp2_with fail
                    go_ret
                    exact ⟨rfl, H7.out⟩
      · have hcy : ∃ x, Reach E x x := by
          obtain ⟨e, _, hr⟩ := Hb.out.1 rfl
          exact ⟨_, hr⟩
        obtain rfl : eo = 8 := by
          rcases H3.out.2.2.1 with h | ⟨_, ht, hlo⟩
          · exact h.1
          · obtain ⟨x, hx⟩ := hcy
            exact absurd hx (ht.acyclic (ht.full hlo) x)
        obtain rfl : el = 8 := by
          rcases H4.out.2.2.1 with h | ⟨_, ht, hlo, _⟩
          · exact h.1
          · obtain ⟨x, hx⟩ := hcy
            exact absurd hx (ht.acyclic (ht.full hlo) x)
        clear hcy
        go_wp2_with fail
        refine (graphExample_any wr).mono ?_
        rintro e w7 ⟨rfl, hc7⟩
        have H7 := Lib.hid (Hcw4.out.trans hc7)
        clear hc7
        go_wp2_with fail
        go_ret
        exact ⟨rfl, H7.out⟩
end Go.Proofs.Ytenjjiilcdgimaa
