/- DepgraphReductionPreserves. -/
import Derived.Test.YtenjjiilcdgimaaDgZ
import Derived.Test.YtenjjiilcdgimaaMod
namespace Go.Proofs.Ytenjjiilcdgimaa
open Go.RowKit Go.ChangeMaps Go.MapKept Go.Shelf
set_option linter.unusedVariables false
set_option linter.unusedSimpArgs false
theorem step_append_run {P : Program} {ops : Array Oper} {o : Oper} {a : Act} {w : World} {K : Act → World → Prop} {Q : Exit → Act → World → Prop} {E : Prop} (hgd : o.guard = none) (s x : Operand) (t : TypeId)
    (ho : o.op = .call { callee := .builtin .append, args := #[s, x], argTypes := #[t, t] }) (v vx v' : Value) (w' : World) (hs : a.eval s = v) (hx : a.eval x = vx)
    (hr : (Builtin.append_ #[t, t] o.type #[v, vx]).run P w = .ok v' w') (h : K (a.put o.dst v') w') : if Region.wanted o (yielded ops a.tmps) = true then Oper.wp P o a w K Q else E := by
  have hw : Region.wanted o (yielded ops a.tmps) = true := by simp [Region.wanted, hgd]
  rw [if_pos hw]
  unfold Oper.wp execOp
  simp only [ho, resolve, invoke, builtin, Sem.run_bind, Sem.run_pure, Result.andThen_ok, List.map_toArray, List.map_cons, List.map_nil, hs, hx, hr]
  exact h
theorem nodup_leE {l m : List Ed} (h : l.Nodup) (hs : ∀ x ∈ l, x ∈ m) : l.length ≤ m.length := by
  induction l generalizing m with
  | nil => simp
  | cons x r ih =>
    have h' := List.nodup_cons.1 h
    have hx := hs x (by simp)
    have := ih (m := m.erase x) h'.2 fun y hy => (List.mem_erase_of_ne (fun e : y = x => h'.1 (by rw [← e]; exact hy))).2 (hs y (by simp [hy]))
    have hl := List.length_erase_of_mem hx
    have := List.length_pos_of_mem hx
    simp only [List.length_cons]
    omega
theorem edClone_any (p : Nat → Prop) (w : World) (v : Value) (E : List Ed) (h : EdP p w v E) (hl : E.length ≤ 1000) :
    Calls Try.prog 16 #[v] w fun e w' => ∃ v', e = .returned v' ∧ OwnE w' w.heap.size v' E ∧ Chg [] w w' := by
  obtain ⟨v', w', hr, ho, hc⟩ := run_append_eds w 22 w.heap.size p _ v [] E (OwnE.nil _ _) h (by simp; omega) (Nat.le_refl _)
  obtain ⟨a, cap, rfl, _, _⟩ := SlR.shape h
  have Hr := Lib.hid hr
  have H := Lib.hid (And.intro ho hc)
  clear h hr ho hc
  go_enter Try.func16, Try.ntmps16
  go_wp2_with (at_builtin; refine wpList_append_run rfl _ _ _ rfl _ _ _ _ rfl rfl Hr.out ?_)
  go_ret
  exact ⟨v', rfl, H.out.1, H.out.2⟩
theorem EdP.drop {p : Nat → Prop} {w : World} {a : Option Addr} {n cap : Nat} {E : List Ed} (h : EdP p w (.slice a n cap) E) (k : Nat) (hk : k ≤ E.length) (a' : Option Addr) (cap' : Nat) (hc' : E.length - k ≤ cap') (hm : cap' ≤ maxLen) (ha : k < E.length → ∃ g off, a = some ⟨g, off, none⟩ ∧ a' = some ⟨g, off + k * 6, none⟩) : EdP p w (.slice a' (E.length - k) cap') (E.drop k) := by
  obtain ⟨a0, cap0, hv, h1, h2, h3⟩ := h
  simp only [Value.slice.injEq] at hv
  obtain ⟨rfl, rfl, rfl⟩ := hv
  have hl : (E.drop k).length = E.length - k := by simp
  refine ⟨a', cap', by rw [hl], by omega, hm, fun h0 => ?_⟩
  obtain ⟨g, off, rfl, rfl⟩ := ha (by omega)
  obtain ⟨g', off', he, hp, hc⟩ := h3 (by omega)
  cases he
  refine ⟨g, _, rfl, hp, fun j hj => ?_⟩
  rw [List.getElem_drop, show off + k * 6 + j * 6 = off + (k + j) * 6 by omega]
  exact hc (k + j) (by omega)
theorem ed3 {W : World} {n : Nat} {f0 f1 f2 t0 t1 t2 : Int} (h : W.heap[n]? = some (.cells #[.int .i64 f0, .int .i64 f1, .int .i64 f2, .int .i64 t0, .int .i64 t1, .int .i64 t2] 37 (0, 0))) :
    W.cell? ⟨n, 0, none⟩ = some (.int .i64 f0) ∧ W.cell? ⟨n, 1, none⟩ = some (.int .i64 f1) ∧ W.cell? ⟨n, 2, none⟩ = some (.int .i64 f2) := by
  obtain ⟨a, b, c, _⟩ := edCc h
  exact ⟨a, b, c⟩
set_option maxRecDepth 100000 in
set_option maxHeartbeats 16000000 in
theorem reduce_any (w : World) (p : Nat → Prop) (v : Value) (E0 : List Ed) (d : Int) (h0 : EdP p w v E0) (hok0 : EdOk E0) :
    Calls Try.prog 5 #[v, .int .i64 d] w fun e w' => e = .returned (.bool true) ∧ Chg [] w w' := by
  obtain ⟨a, cap, rfl, hml, hcp⟩ := SlR.shape h0
  obtain ⟨n, hn⟩ : ∃ n, n = min E0.length 30 := ⟨_, rfl⟩
  have hmi : min (E0.length : Int) 30 = (n : Int) := by omega
  have hnl : n ≤ E0.length := by omega
  have hn50 : n ≤ 30 := by omega
  obtain ⟨E, hE⟩ : ∃ E, E = E0.take n := ⟨_, rfl⟩
  have hl : E.length ≤ 100 := by rw [hE, List.length_take]; omega
  have hel : E.length = n := by rw [hE, List.length_take]; omega
  have hed : EdP p w (.slice a n cap) E := by rw [hE]; exact h0.take n hnl
  have hok : EdOk E := by rw [hE]; exact hok0.take n
  have hnc : n ≤ cap := by omega
  have He := Lib.hid (And.intro hed (And.intro hl (And.intro hok hel)))
  unfold maxLen at hml
  clear h0 hok0 hn hE hl hel hed hok
  go_enter Try.func5, Try.ntmps5
  go_wp2_with fail
  refine (graphExample_any w).mono ?_
  rintro e w2 ⟨rfl, hc2⟩
  have Hc2 := Lib.hid hc2
  clear hc2
  go_wp2_with fail
  refine (reduction_any p w2 _ E (He.out.1.same Hc2.out) He.out.2.1 He.out.2.2.1).mono ?_
  rintro e w3 ⟨rfl | ⟨ar, cr, R, rfl, hR, hred, O, htop, hlo⟩, hc3⟩
  · have H3 := Lib.hid (Hc2.out.trans hc3)
    clear hc3
    go_wp2_with fail
    refine (graphExample_any w3).mono ?_
    rintro e w4 ⟨rfl, hc4⟩
    have H4 := Lib.hid (H3.out.trans hc4)
    clear hc4
    go_wp2_with fail
    go_ret
    exact ⟨rfl, H4.out⟩
  · have hrk : ∀ x y, (x, y) ∈ E → idx O y < idx O x := fun x y hxy => (htop.edge (htop.full hlo) hxy).1
    have hRl : R.length ≤ n := by
      have := nodup_leE hred.1 fun x hx => ((hred.2 x).1 hx).1
      have := He.out.2.2.2
      omega
    have hRok : EdOk R := fun x hx => He.out.2.2.1 x ((hred.2 x).1 hx).1
    have hrc : R.length ≤ cr ∧ cr ≤ maxLen := by obtain ⟨a', c', hv, h1, h2, _⟩ := id hR; cases hv; exact ⟨h1, h2⟩
    obtain ⟨hrc, hrm⟩ := hrc
    unfold maxLen at hrm
    have H3 := Lib.hid (And.intro hR (And.intro hred (And.intro hrk (And.intro hRok (Hc2.out.trans hc3)))))
    clear hR hred htop hlo hc3 hrk hRok
    go_wp2_with fail
    go_loopw [36] (fun i wx => ∃ j : Nat, j ≤ n ∧ i = .int .i64 (j : Nat) ∧ Hid (Chg [] w3 wx)) (fun i _ => n - (intOf i).toNat)
    case atStart => exact ⟨0, by omega, rfl, Lib.hid (Chg.refl _ _)⟩
    case round =>
      obtain ⟨j, hj, rfl, Hcw⟩ := hrel
      by_cases hlt : j < n
      · have hj1 : (j : Int) < n := by omega
        have hjE : j < E.length := by have := He.out.2.2.2; omega
        have hE5 := (He.out.1.same (H3.out.2.2.2.2.trans Hcw.out))
        rw [← He.out.2.2.2] at hE5
        obtain ⟨g, off, rfl, _, c0, c1, c2, c3, c4, c5⟩ := hE5.cells j hjE
        have hok := He.out.2.2.1 _ (getD_memEd hjE)
        obtain ⟨ed, hed⟩ : ∃ e, E.getD j e0 = e := ⟨_, rfl⟩
        rw [hed] at c0 c1 c2 c3 c4 c5 hok
        obtain ⟨⟨f0, f1, f2⟩, t0, t1, t2⟩ := ed
        simp only at c0 c1 c2 c3 c4 c5
        have lc := lt_of_cell c0
        obtain ⟨w5, hw5⟩ : ∃ q, q = wr.alloc (.cells #[.int .i64 f0, .int .i64 f1, .int .i64 f2, .int .i64 t0, .int .i64 t1, .int .i64 t2] 37) := ⟨_, rfl⟩
        obtain ⟨n5, hn5⟩ : ∃ n, n = wr.heap.size := ⟨_, rfl⟩
        have hc5 : Chg [] w3 w5 := Hcw.out.trans (by rw [hw5]; exact (Chg.refl [] wr).alloc _)
        have hb5 : w5.heap[n5]? = some (.cells #[.int .i64 f0, .int .i64 f1, .int .i64 f2, .int .i64 t0, .int .i64 t1, .int .i64 t2] 37 (0, 0)) := by rw [hw5, hn5]; exact heap_at _ _ _ rfl
        obtain ⟨x0, x1, x2, _, _, _⟩ := edCc hb5
        have lx := lt_of_cell x0
        have HD1 := Lib.hid (show ∀ W, Chg [] w3 W → Calls Try.prog 7 #[.slice (some ⟨g, off, none⟩) n cap, .agg #[.int .i64 f0, .int .i64 f1, .int .i64 f2]] W (RchPost W E (f0, f1, f2)) from
          fun W hW => deps_any p W _ E (f0, f1, f2) (He.out.1.same (H3.out.2.2.2.2.trans hW)) He.out.2.1 He.out.2.2.1 hok.1)
        have HD2 := Lib.hid (show ∀ W, Chg [] w3 W → Calls Try.prog 7 #[.slice ar R.length cr, .agg #[.int .i64 f0, .int .i64 f1, .int .i64 f2]] W (RchPost W R (f0, f1, f2)) from
          fun W hW => deps_any _ W _ R (f0, f1, f2) (H3.out.1.same hW) (by omega) H3.out.2.2.2.1 hok.1)
        have HW5 := Lib.hid (And.intro hw5 hn5)
        have H5 := Lib.hid (And.intro hc5 hb5)
        clear hed hok hE5 hw5 hn5 hc5 hb5
        go_upto_region 10 with (fail)
        rw [← HW5.out.1, ← HW5.out.2]
        clear c0 c1 c2 c3 c4 c5 lc
        go_region_held3 (fun W => W.cell? ⟨n5, 0, none⟩ = some (.int .i64 f0) ∧ W.cell? ⟨n5, 1, none⟩ = some (.int .i64 f1) ∧ W.cell? ⟨n5, 2, none⟩ = some (.int .i64 f2))
          (first | (go_keep; done) | (exact ed3 ((C3.out.block _ (lt_of_obj H5.out.2) (by simp)).trans H5.out.2)) | (exact ed3 ((C2.out.block _ (lt_of_obj H5.out.2) (by simp)).trans H5.out.2)) | (exact ed3 ((C1.out.block _ (lt_of_obj H5.out.2) (by simp)).trans H5.out.2)))
          (first
            | (go_at_call 7; (with_reducible refine (HD1.out _ ?_).mono ?_); (first | exact H5.out.1.drew | fail); rintro e w6 ⟨v6, l6, rfl, hi, hd, hc⟩; have C1 : Hid (Chg [] w5 w6) := Lib.hid ((Chg.refl [] w5).drew.trans hc); have H6 := Lib.hid (And.intro hi hd); clear hi hd hc)
            | (go_at_call 7; (with_reducible refine (HD2.out _ ?_).mono ?_); (first | exact H5.out.1.trans C1.out | fail); rintro e w7 ⟨v7, l7, rfl, hi, hd, hc⟩; have C2 : Hid (Chg [] w5 w7) := Lib.hid (C1.out.trans hc); have heq := equalKeys_any w7 _ _ v6 v7 l6 l7 (i3s_same H6.out.1 hc) hi; rw [decide_eq_true (H6.out.2.uniq hd (fun y => (red_reach H3.out.2.1 H3.out.2.2.1 _ y).symm))] at heq; have Heq := Lib.hid heq; clear hi hd hc heq)
            | (go_at_call 14; (with_reducible refine Heq.out.mono ?_); rintro e w8 ⟨rfl, hc⟩; have C3 : Hid (Chg [] w5 w8) := Lib.hid (C2.out.trans hc); clear hc))
        all_goals
          go_wp2_with fail
          exact ⟨⟨j + 1, by omega, by go_num, Lib.hid (H5.out.1.trans C3.out)⟩, by simp [intOf]; omega⟩
      · have hj1 : ¬ ((j : Int) < n) := by omega
        have Hcw3 := Lib.hid (H3.out.2.2.2.2.trans Hcw.out)
        by_cases hRe : R = []
        · subst hRe
          have hEe : E = [] := red_nil H3.out.2.1 H3.out.2.2.1
          have hn0 : n = 0 := by rw [← He.out.2.2.2, hEe]; rfl
          subst hn0
          go_wp2_with fail
          refine (graphExample_any wr).mono ?_
          rintro e w4 ⟨rfl, hc4⟩
          have H4 := Lib.hid (Hcw3.out.trans hc4)
          clear hc4
          go_wp2_with fail
          go_ret
          exact ⟨rfl, H4.out⟩
        · have hpos : 0 < R.length := List.length_pos_iff.2 hRe
          have hnz : ¬ ((R.length : Int) = 0) := by omega
          have hmb := modI_bd d R.length (by omega)
          obtain ⟨k, hk⟩ : ∃ k : Nat, modI d R.length = (k : Int) := ⟨(modI d R.length).toNat, by omega⟩
          rw [hk] at hmb
          have hkl : k < R.length := by omega
          have hmd := fun W => mod_any d R.length W (by omega) (by omega)
          rw [hk] at hmd
          have Hmd := Lib.hid hmd
          clear hmd hk hmb hRe
          go_wp2_with fail
          refine (Hmd.out _).mono ?_
          rintro e w4 ⟨rfl, rfl⟩
          obtain ⟨gr, offr, rfl, _, q0, q1, q2, q3, q4, q5⟩ := (H3.out.1.same Hcw.out).cells k hkl
          have hcl := edClone_any _ wr.drew (.slice (some ⟨gr, offr, none⟩) k cr) (R.take k) (((H3.out.1.same Hcw.out).take k (by omega)).same ((Chg.refl [] wr).drew)) (by rw [List.length_take]; omega)
          obtain ⟨T, hT⟩ : ∃ T, T = R.take k := ⟨_, rfl⟩
          rw [← hT] at hcl
          have hTl : T.length ≤ k := by rw [hT, List.length_take]; omega
          have HT := Lib.hid hT
          have Hcl := Lib.hid hcl
          have hwr : IntKind.i64.wrap ((k : Int) + 1) = (k : Int) + 1 := IntWalk.i64_in _ (by omega)
          have hk0 : (k : Int) ≤ cr := by omega
          have hk1 : (k : Int) + 1 ≤ R.length := by omega
          have hk2 : ((k : Int) + 1).toNat = k + 1 := by omega
          have hk3 : (0 : Int) ≤ (k : Int) + 1 := by omega
          have hk4 : (R.length : Int) ≤ cr := by omega
          clear hcl hT q0 q1 q2 q3 q4 q5
          go_upto_region 16 with (fail)
          obtain ⟨S, hS⟩ : ∃ S, S = T ++ R.drop (k + 1) := ⟨_, rfl⟩
          have hSl : S.length ≤ 100 := by rw [hS, List.length_append, List.length_drop]; omega
          have hSok : EdOk S := fun x hx => by
            rw [hS] at hx
            rcases List.mem_append.1 hx with hx | hx
            · rw [HT.out] at hx; exact H3.out.2.2.2.1 x (List.mem_of_mem_take hx)
            · exact H3.out.2.2.2.1 x (List.mem_of_mem_drop hx)
          have HS := Lib.hid (And.intro hS (And.intro hSl hSok))
          clear hS hSl hSok
          go_cut [9] (fun x9 wx => ∃ a9 c9, x9 = .slice a9 S.length c9 ∧ OwnE wx wr.heap.size x9 S ∧ Chg [] wr wx)
          case first =>
            by_cases hck : cr = k + 1
            · have hRk : R.length = k + 1 := by omega
              have hk5 : (k : Int) ≤ (k : Int) + 1 := by omega
              have hdr : R.drop (k + 1) = [] := List.drop_eq_nil_of_le (by omega)
              have HSe := Lib.hid (show S = T ++ [] by rw [HS.out.1, hdr])
              have HRk := Lib.hid hRk
              clear hdr hRk
              subst hck
              go_region_law (first
                | (rw [if_pos (by simp [Region.wanted])]; go_simp; go_at_call 16; refine Hcl.out.mono ?_; rintro e w6 ⟨v6, rfl, ho6, hc6⟩; obtain ⟨a6, c6, rfl⟩ := ownsRow_shape ho6; have h6 : Chg [] wr w6 := (Chg.refl [] wr).drew.trans hc6; obtain ⟨v9, w9, hr9, ho9, hc9⟩ := run_append_eds w6 22 wr.heap.size (fun _ => True) _ (.slice (some ⟨gr, offr, none⟩) 0 0) T [] ho6 ⟨_, 0, rfl, Nat.le_refl _, Nat.zero_le _, fun h => absurd h (by simp)⟩ (by simp; omega) h6.size; have H9 := Lib.hid (show OwnE w9 wr.heap.size v9 S ∧ Chg [] wr w9 from ⟨by rw [HSe.out]; exact ho9, h6.comp hc9 fun g hg => Or.inr (ho6.lt g (by simpa using hg)).1⟩); have Hr9 := Lib.hid hr9; clear ho6 hc6 h6 hr9 ho9 hc9)
                | (refine step_append_run rfl _ _ _ rfl _ _ _ _ rfl rfl Hr9.out ?_))
              all_goals
                try simp only [List.getElem_toArray, List.getElem_cons_zero, List.getElem_cons_succ]
                obtain ⟨a9, c9, rfl⟩ := ownsRow_shape H9.out.1
                go_wp2_with fail
                go_meet
                exact ⟨a9, c9, rfl, H9.out.1, H9.out.2⟩
            · have HDr := Lib.hid (show EdP _ wr (.slice (some ⟨gr, offr + (k + 1) * 6, none⟩) (R.length - (k + 1)) (cr - (k + 1))) (R.drop (k + 1)) from (H3.out.1.same Hcw.out).drop (k + 1) (by omega) _ _ (by omega) (by unfold maxLen; omega) (fun _ => ⟨gr, offr, rfl, rfl⟩))
              go_region_law (first
                | (rw [if_pos (by simp [Region.wanted])]; go_simp; go_at_call 16; refine Hcl.out.mono ?_; rintro e w6 ⟨v6, rfl, ho6, hc6⟩; obtain ⟨a6, c6, rfl⟩ := ownsRow_shape ho6; have h6 : Chg [] wr w6 := (Chg.refl [] wr).drew.trans hc6; obtain ⟨v9, w9, hr9, ho9, hc9⟩ := run_append_eds w6 22 wr.heap.size _ _ _ T (R.drop (k + 1)) ho6 (HDr.out.same h6) (by rw [List.length_drop]; omega) h6.size; have H9 := Lib.hid (show OwnE w9 wr.heap.size v9 S ∧ Chg [] wr w9 from ⟨by rw [HS.out.1]; exact ho9, h6.comp hc9 fun g hg => Or.inr (ho6.lt g (by simpa using hg)).1⟩); have Hr9 := Lib.hid hr9; clear ho6 hc6 h6 hr9 ho9 hc9)
                | (refine step_append_run rfl _ _ _ rfl _ _ _ _ rfl rfl Hr9.out ?_))
              all_goals
                try simp only [List.getElem_toArray, List.getElem_cons_zero, List.getElem_cons_succ]
                obtain ⟨a9, c9, rfl⟩ := ownsRow_shape H9.out.1
                go_wp2_with fail
                go_meet
                exact ⟨a9, c9, rfl, H9.out.1, H9.out.2⟩
          case rest =>
            obtain ⟨a9, c9, rfl, ho9, hc9⟩ := hcut
            have H9 := Lib.hid (And.intro ho9 hc9)
            obtain ⟨gr', offr', hgr, _, r0, r1, r2, r3, r4, r5⟩ := (H3.out.1.same (Hcw.out.trans hc9)).cells k hkl
            cases hgr
            obtain ⟨ed, hed⟩ : ∃ e, R.getD k e0 = e := ⟨_, rfl⟩
            have hmem := getD_memEd hkl
            rw [hed] at r0 r1 r2 r3 r4 r5 hmem
            have hdrop := red_drop H3.out.2.1 k hkl
            have hgk : R[k] = ed := by rw [← hed, List.getD_eq_getElem?_getD, List.getElem?_eq_getElem hkl]; rfl
            rw [hgk, ← HT.out, ← HS.out.1] at hdrop
            obtain ⟨⟨f0, f1, f2⟩, t0, t1, t2⟩ := ed
            simp only at r0 r1 r2 r3 r4 r5 hdrop
            have heok := H3.out.2.2.2.1 _ hmem
            have lr := lt_of_cell r0
            have Hg9 := Lib.hid (graphExample_any wc.drew)
            have HDS := Lib.hid (show ∀ W, Chg [] wc W → Calls Try.prog 7 #[.slice a9 S.length c9, .agg #[.int .i64 f0, .int .i64 f1, .int .i64 f2]] W (RchPost W S (f0, f1, f2)) from fun W (hW : Chg [] wc W) => deps_any _ W _ _ (f0, f1, f2) ((H9.out.1.same hW).eds) HS.out.2.1 HS.out.2.2 heok.1)
            have HR9 := Lib.hid (show ∀ W, Chg [] wc W → (W.cell? ⟨gr, offr + k * 6, none⟩ = some (.int .i64 f0) ∧ W.cell? ⟨gr, offr + k * 6 + 1, none⟩ = some (.int .i64 f1) ∧ W.cell? ⟨gr, offr + k * 6 + 2, none⟩ = some (.int .i64 f2) ∧ W.cell? ⟨gr, offr + k * 6 + 3, none⟩ = some (.int .i64 t0) ∧ W.cell? ⟨gr, offr + k * 6 + 4, none⟩ = some (.int .i64 t1) ∧ W.cell? ⟨gr, offr + k * 6 + 5, none⟩ = some (.int .i64 t2)) from fun W hW =>
              ⟨(hW.cell lr (by simp)).trans r0, (hW.cell (p := ⟨gr, offr + k * 6 + 1, none⟩) lr (by simp)).trans r1, (hW.cell (p := ⟨gr, offr + k * 6 + 2, none⟩) lr (by simp)).trans r2, (hW.cell (p := ⟨gr, offr + k * 6 + 3, none⟩) lr (by simp)).trans r3, (hW.cell (p := ⟨gr, offr + k * 6 + 4, none⟩) lr (by simp)).trans r4, (hW.cell (p := ⟨gr, offr + k * 6 + 5, none⟩) lr (by simp)).trans r5⟩)
            have Hdrop := Lib.hid hdrop
            have hkk : (k : Int) < R.length := by omega
            have hkp : (0 : Int) ≤ (k : Int) := by omega
            have Hw := Lib.hid (Hcw3.out.trans hc9)
            clear ho9 hc9 hed hmem hdrop hgk heok
            go_upto_region 17 with (fail)
            go_region_held3 (fun W => W.cell? ⟨gr, offr + k * 6, none⟩ = some (.int .i64 f0) ∧ W.cell? ⟨gr, offr + k * 6 + 1, none⟩ = some (.int .i64 f1) ∧ W.cell? ⟨gr, offr + k * 6 + 2, none⟩ = some (.int .i64 f2) ∧ W.cell? ⟨gr, offr + k * 6 + 3, none⟩ = some (.int .i64 t0) ∧ W.cell? ⟨gr, offr + k * 6 + 4, none⟩ = some (.int .i64 t1) ∧ W.cell? ⟨gr, offr + k * 6 + 5, none⟩ = some (.int .i64 t2))
              (first | (go_keep; done) | (exact HR9.out _ C3.out) | (exact HR9.out _ C2.out) | (exact HR9.out _ C1.out))
              (first
                | (go_at_call 6; (with_reducible refine Hg9.out.mono ?_); rintro e w6 ⟨rfl, hc⟩; have C1 : Hid (Chg [] wc w6) := Lib.hid ((Chg.refl [] wc).drew.trans hc); obtain ⟨x0, x1, x2, x3, x4, x5⟩ := HR9.out _ C1.out; have l6 := lt_of_cell x0; clear hc)
                | (go_at_call 7; (with_reducible refine (HDS.out _ ?_).mono ?_); (first | exact C1.out | fail); rintro e w7 ⟨v7, l7, rfl, hi, hd, hc⟩; have C2 : Hid (Chg [] wc w7) := Lib.hid (C1.out.trans hc); have hcn := refContainsK _ w7 v7 l7 (t0, t1, t2) hi (fun g hg => hg.2); rw [decide_eq_false (fun hm => Hdrop.out ((hd.2 _).1 hm))] at hcn; simp only [i3v] at hcn; have Hcn := Lib.hid hcn; clear hi hd hc hcn)
                | (go_at_call 8; (with_reducible refine Hcn.out.mono ?_); rintro e w8 ⟨rfl, hc⟩; have C3 : Hid (Chg [] wc w8) := Lib.hid (C2.out.trans hc); clear hc))
            all_goals
              go_wp2_with fail
              go_ret
              exact ⟨rfl, Hw.out.trans C3.out⟩
end Go.Proofs.Ytenjjiilcdgimaa
